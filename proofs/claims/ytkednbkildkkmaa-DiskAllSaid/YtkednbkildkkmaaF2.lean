/- disk: Read, Cut, Drop, Write over a held disk. -/
import Derived.Test.YtkednbkildkkmaaF1
import Derived.Deep.RegionHeld3
import Derived.IntWalk
namespace Go.Proofs.Ytkednbkildkkmaa
open Go.RowKit
open Disk


section
variable {w0 w : World} {B : List Res} {p : Nat} {d : Dk}
theorem look_bad (h : Held w0 w (rDisk p d :: B)) {name : Bytes} (hn : name.length ≤ 9223372036854775807) (hm : may name = false) :
    Calls Try.prog 32 #[.pointer (some ⟨p, 0, none⟩), sv name] w fun e w' => e = .returned (.tuple #[.pointer none, .int .i64 6]) ∧ Held w0 w' (rDisk p d :: B) := by
  refine (look_held h name hn).mono ?_
  rintro e w' ⟨hh, he⟩
  refine ⟨?_, hh⟩
  cases hg : Dict.get d.seen name with
  | none => rw [hg] at he; simpa [hm] using he
  | some x => rw [hg] at he; simpa [hm] using he
theorem look_miss (h : Held w0 w (rDisk p d :: B)) {name : Bytes} (hn : name.length ≤ 9223372036854775807) (hm : may name = true) (hg : Dict.get d.seen name = none) :
    Calls Try.prog 32 #[.pointer (some ⟨p, 0, none⟩), sv name] w fun e w' => e = .returned (.tuple #[.pointer none, .int .i64 20]) ∧ Held w0 w' (rDisk p d :: B) := by
  refine (look_held h name hn).mono ?_
  rintro e w' ⟨hh, he⟩
  refine ⟨?_, hh⟩
  rw [hg] at he
  simpa [hm] using he
theorem look_hit (h : Held w0 w (rDisk p d :: B)) {name x : Bytes} (hn : name.length ≤ 9223372036854775807) (hm : may name = true) (hg : Dict.get d.seen name = some x) :
    Calls Try.prog 32 #[.pointer (some ⟨p, 0, none⟩), sv name] w fun e w' => ∃ b A c, e = .returned (.tuple #[.pointer (some ⟨b, 0, none⟩), .int .i64 0]) ∧
      w'.cell? ⟨b, 0, none⟩ = some (.slice A x.length c) ∧ x.length ≤ c ∧ c ≤ 9223372036854775807 ∧ Rd (fun _ => True) w' (.slice A x.length c) (bytesV x) ∧ Held w0 w' (rDisk p d :: B) := by
  refine (look_held h name hn).mono ?_
  rintro e w' ⟨hh, he⟩
  rw [hg] at he
  simp only [hm, Bool.true_eq_false, if_false] at he
  obtain ⟨b, s, he, hc, hr⟩ := he
  obtain ⟨A, c, hv, q1, q2, _⟩ := id hr
  rw [bytesV_length] at hv q1
  subst hv
  exact ⟨b, A, c, he, hc, q1, q2, hr, hh⟩
theorem Held.view (h : Held w0 w (rDisk p d :: B)) : ∃ i, DiskSeen p d w i ∧ (∀ ty, (Builtin.len_ #[48] ty #[.map (some i.bs)]).run Try.prog w = .ok (.int .i64 d.seen.length) w) ∧
    (∀ name : Bytes, name.length ≤ 9223372036854775807 → (Instr.lookup 50 (.map (some i.bh)) (sv name) false).run Try.prog w = .ok (.int .i64 ((Dict.get d.held name).getD 0 : Nat)) w) := by
  obtain ⟨i, h1⟩ := h.dopen
  refine ⟨i, h1.blk0.disk, fun ty => ?_, fun name hn => Held.held_lookup (A := [_, _, _, _]) h1 hn⟩
  obtain ⟨ys, hp, h2⟩ := Held.files_open (A := []) h1.pull1
  have := h2.mapAt.run_len Try.underlying48 ty
  rw [this]
  have hl : (filesL ys).length = d.seen.length := by rw [← hp.length_eq]; simp [filesL]
  rw [hl]
theorem Held.room_cell (h : Held w0 w (rDisk p d :: B)) : w.cell? ⟨p, 0, none⟩ = some (.int .i64 d.room) := by
  obtain ⟨i, hs, _⟩ := h.view
  exact hs.c0
theorem Dk.Ok.len (hok : d.Ok) {n x : Bytes} (h : Dict.get d.seen n = some x) : x.length ≤ 16777216 := by
  have := (hok.seenLe n x h).2
  have := hok.hold_room n
  have := hok.room
  omega

set_option maxRecDepth 100000 in
theorem read_held (h : Held w0 w (rDisk p d :: B)) (hok : d.Ok) (name : Bytes) (hn : name.length ≤ 9223372036854775807) :
    Calls Try.prog 16 #[.pointer (some ⟨p, 0, none⟩), sv name] w fun e w' => ∃ v, e = .returned (.tuple #[v, .int .i64 (d.read name).2]) ∧ Held w0 w' (rBytes v (d.read name).1 :: rDisk p d :: B) := by
  cases hm : may name with
  | false =>
    have HE := hid (show d.read name = ([], 6) by unfold Dk.read; rw [if_pos hm])
    have HL := hid (look_bad h hn hm)
    clear h hm
    go_enter Try.func16, Try.ntmps16
    go_wp2_with fail
    refine HL.out.mono ?_
    rintro e w1 ⟨rfl, g1⟩
    have G1 := hid g1
    clear g1
    go_wp2_with fail
    go_ret2
    rw [HE.out]
    exact ⟨_, rfl, G1.out.nil_own _⟩
  | true =>
    cases hg : Dict.get d.seen name with
    | none =>
      have HE := hid (show d.read name = ([], 20) by unfold Dk.read; rw [hm, hg]; rfl)
      have HL := hid (look_miss h hn hm hg)
      clear h hm hg
      go_enter Try.func16, Try.ntmps16
      go_wp2_with fail
      refine HL.out.mono ?_
      rintro e w1 ⟨rfl, g1⟩
      have G1 := hid g1
      clear g1
      go_wp2_with fail
      go_ret2
      rw [HE.out]
      exact ⟨_, rfl, G1.out.nil_own _⟩
    | some x =>
      have HE := hid (show d.read name = (x, 0) by unfold Dk.read; rw [hm, hg]; rfl)
      have HL := hid (look_hit h hn hm hg)
      have hx := Dk.Ok.len hok hg
      clear h hm hg
      go_enter Try.func16, Try.ntmps16
      go_wp2_with fail
      refine HL.out.mono ?_
      rintro e w1 ⟨b, A, c, rfl, hc, q1, q2, hr, g1⟩
      have CL := hid (clone_held g1 (fun _ => True) _ x hr (by omega))
      clear g1 hr
      go_wp2_with fail
      refine CL.out.mono ?_
      rintro e w2 ⟨v, rfl, g2⟩
      have G2 := hid g2
      clear g2
      go_wp2_with fail
      go_ret2
      rw [HE.out]
      exact ⟨v, rfl, G2.out⟩

/-- do, its deed laid open. -/
theorem do_call (k : Nat) (name : Bytes) (i : Nat) (b : Bytes) (bA : Option Addr) (bc : Nat) (h : Held w0 w (rBytes (.slice bA b.length bc) b :: rDisk p d :: B)) (hok : d.Ok)
    (hn : name.length ≤ 9223372036854775807) (hk : k ≤ 2) (hsz : i + b.length ≤ 1073741824) (hpl : d.pending.length ≤ 1000000) :
    Calls Try.prog 48 #[.pointer (some ⟨p, 0, none⟩), .agg #[.int .i64 (k : Nat), sv name, .int .i64 (i : Nat), .slice bA b.length bc]] w fun e w' => e = .returned (.tuple #[]) ∧ Held w0 w' (rDisk p (d.act ⟨k, name, i, b⟩) :: B) :=
  ddo_held (A := []) ⟨k, name, i, b⟩ bA bc h hn hk hsz (by omega) (fun x hx => by have := Dk.Ok.len hok hx; omega)

set_option maxRecDepth 100000 in
theorem cut_held (h : Held w0 w (rDisk p d :: B)) (hok : d.Ok) (hpl : d.pending.length ≤ 1000000) (name : Bytes) (hn : name.length ≤ 9223372036854775807) (n : Int) :
    Calls Try.prog 37 #[.pointer (some ⟨p, 0, none⟩), sv name, .int .i64 n] w fun e w' => e = .returned (.int .i64 (d.cut name n).2) ∧ Held w0 w' (rDisk p (d.cut name n).1 :: B) := by
  cases hm : may name with
  | false =>
    have HE := hid (show d.cut name n = (d, 6) by unfold Dk.cut; rw [if_pos hm])
    have HL := hid (look_bad h hn hm)
    clear h hm
    go_enter Try.func37, Try.ntmps37
    go_wp2_with fail
    refine HL.out.mono ?_
    rintro e w1 ⟨rfl, g1⟩
    have G1 := hid g1
    clear g1
    go_wp2_with fail
    go_ret
    rw [HE.out]
    exact ⟨rfl, G1.out⟩
  | true =>
    cases hg : Dict.get d.seen name with
    | none =>
      have HE := hid (show d.cut name n = (d, 20) by unfold Dk.cut; rw [hm, hg]; rfl)
      have HL := hid (look_miss h hn hm hg)
      clear h hm
      go_enter Try.func37, Try.ntmps37
      go_wp2_with fail
      refine HL.out.mono ?_
      rintro e w1 ⟨rfl, g1⟩
      have G1 := hid g1
      clear g1
      go_wp2_with fail
      go_ret
      rw [HE.out]
      exact ⟨rfl, G1.out⟩
    | some x =>
      have HL := hid (look_hit h hn hm hg)
      have hx := Dk.Ok.len hok hg
      have HK := hid hok
      by_cases hb : n < 0 ∨ n > x.length
      · have HE := hid (show d.cut name n = (d, 1) by unfold Dk.cut; rw [hm, hg]; simp only [Bool.true_eq_false, if_false]; rw [if_pos hb])
        clear h hm hg hok
        rcases hb with hb | hb
        all_goals
          go_enter Try.func37, Try.ntmps37
          go_wp2_with fail
          refine HL.out.mono ?_
          rintro e w1 ⟨b, A, c, rfl, hc, q1, q2, hr, g1⟩
          have G1 := hid g1
          clear g1 hr
          go_wp2_with fail
          go_ret
          rw [HE.out]
          exact ⟨rfl, G1.out⟩
      · obtain ⟨k, rfl⟩ := Int.eq_ofNat_of_zero_le (a := n) (by omega)
        have hkx : k ≤ x.length := by omega
        have HE := hid (show d.cut name (k : Int) = (d.act ⟨1, name, k, []⟩, 0) by unfold Dk.cut; rw [hm, hg]; simp only [Bool.true_eq_false, if_false]; rw [if_neg hb]; rfl)
        clear h hm hg hok hb
        unfold sv at HL ⊢
        go_enter Try.func37, Try.ntmps37
        go_wp2_with fail
        refine HL.out.mono ?_
        rintro e w1 ⟨b, A, c, rfl, hc, q1, q2, hr, g1⟩
        have CD := hid (do_call 1 name k [] none 0 (g1.nil_own _) HK.out hn (by decide) (by simp; omega) hpl)
        unfold sv at CD
        clear g1 hr
        go_wp2_with fail
        refine CD.out.mono ?_
        rintro e w2 ⟨rfl, g2⟩
        have G2 := hid g2
        clear g2
        go_wp2_with fail
        go_ret
        rw [HE.out]
        exact ⟨rfl, G2.out⟩

set_option maxRecDepth 100000 in
theorem drop_held (h : Held w0 w (rDisk p d :: B)) (hok : d.Ok) (hpl : d.pending.length ≤ 1000000) (name : Bytes) (hn : name.length ≤ 9223372036854775807) :
    Calls Try.prog 38 #[.pointer (some ⟨p, 0, none⟩), sv name] w fun e w' => e = .returned (.int .i64 (d.drop name).2) ∧ Held w0 w' (rDisk p (d.drop name).1 :: B) := by
  cases hm : may name with
  | false =>
    have HE := hid (show d.drop name = (d, 6) by unfold Dk.drop; rw [if_pos hm])
    have HL := hid (look_bad h hn hm)
    clear h hm
    go_enter Try.func38, Try.ntmps38
    go_wp2_with fail
    refine HL.out.mono ?_
    rintro e w1 ⟨rfl, g1⟩
    have G1 := hid g1
    clear g1
    go_wp2_with fail
    go_ret
    rw [HE.out]
    exact ⟨rfl, G1.out⟩
  | true =>
    cases hg : Dict.get d.seen name with
    | none =>
      have HE := hid (show d.drop name = (d, 20) by unfold Dk.drop; rw [hm, hg]; rfl)
      have HL := hid (look_miss h hn hm hg)
      clear h hm
      go_enter Try.func38, Try.ntmps38
      go_wp2_with fail
      refine HL.out.mono ?_
      rintro e w1 ⟨rfl, g1⟩
      have G1 := hid g1
      clear g1
      go_wp2_with fail
      go_ret
      rw [HE.out]
      exact ⟨rfl, G1.out⟩
    | some x =>
      have HL := hid (look_hit h hn hm hg)
      have HK := hid hok
      have HE := hid (show d.drop name = (d.act ⟨2, name, 0, []⟩, 0) by unfold Dk.drop; rw [hm, hg]; rfl)
      clear h hm hg hok
      unfold sv at HL ⊢
      go_enter Try.func38, Try.ntmps38
      go_wp2_with fail
      refine HL.out.mono ?_
      rintro e w1 ⟨b, A, c, rfl, hc, q1, q2, hr, g1⟩
      have CD := hid (do_call 2 name 0 [] none 0 (g1.nil_own _) HK.out hn (by decide) (by simp) hpl)
      unfold sv at CD
      clear g1 hr
      go_wp2_with fail
      refine CD.out.mono ?_
      rintro e w2 ⟨rfl, g2⟩
      have G2 := hid g2
      clear g2
      go_wp2_with fail
      go_ret
      rw [HE.out]
      exact ⟨rfl, G2.out⟩

set_option maxRecDepth 100000 in
set_option maxHeartbeats 1000000 in
theorem write_held (h : Held w0 w (rDisk p d :: B)) (hok : d.Ok) (hpl : d.pending.length ≤ 1000000) (name : Bytes) (hn : name.length ≤ 9223372036854775807) (bs : Bytes) (bA : Option Addr) (bc : Nat)
    (hb : Src w0 [] B (.slice bA bs.length bc) (bytesV bs)) (hbl : bs.length ≤ 1000000000) :
    Calls Try.prog 29 #[.pointer (some ⟨p, 0, none⟩), sv name, .slice bA bs.length bc] w fun e w' => e = .returned (.int .i64 (d.write name bs).2) ∧ Held w0 w' (rDisk p (d.write name bs).1 :: B) := by
  have hroom := hok.room
  have hfits := hok.fits
  cases hm : may name with
  | false =>
    have HE := hid (show d.write name bs = (d, 6) by unfold Dk.write; rw [if_pos hm])
    have HL := hid (look_bad h hn hm)
    clear h hm
    go_enter Try.func29, Try.ntmps29
    go_wp2_with fail
    refine HL.out.mono ?_
    rintro e w1 ⟨rfl, g1⟩
    have G1 := hid g1
    clear g1
    go_wp2_with fail
    go_ret
    rw [HE.out]
    exact ⟨rfl, G1.out⟩
  | true =>
    cases hg : Dict.get d.seen name with
    | none =>
      by_cases hfull : 4096 ≤ d.seen.length
      · have HE := hid (show d.write name bs = (d, 7) by unfold Dk.write; rw [hm, hg]; simp [hfull])
        have HL := hid (look_miss h hn hm hg)
        clear h hm
        go_enter Try.func29, Try.ntmps29
        go_wp2_with fail
        refine HL.out.mono ?_
        rintro e w1 ⟨rfl, g1⟩
        obtain ⟨i, hs, hlen, hlk⟩ := g1.view
        obtain ⟨c0, c1, c2, c3, c4⟩ := hs
        have G1 := hid g1
        clear g1 hlk hg
        go_wp2_with fail
        go_ret
        rw [HE.out]
        exact ⟨rfl, G1.out⟩
      · have hfull' : d.seen.length < 4096 := by omega
        have HE := hid (show d.write name bs = d.writeAt name 0 bs by unfold Dk.write; rw [hm, hg]; simp [hfull])
        have hat : 0 ≤ (Dict.get d.held name).getD 0 := Nat.zero_le _
        have hhr : (Dict.get d.held name).getD 0 ≤ used d.held := hold_le hok.heldOk name
        have HL := hid (look_miss h hn hm hg)
        have HK := hid hok
        clear h hm hg hok
        generalize hho : (Dict.get d.held name).getD 0 = ho at *
        generalize hus : used d.held = us at *
        generalize hrm : d.room = rm at *
        have s1 : IntKind.i64.wrap ((rm : Int) - us) = (rm : Int) - us := IntWalk.i64_in _ (by omega)
        have s2 : IntKind.i64.wrap ((rm : Int) - us + ho) = (rm : Int) - us + ho := IntWalk.i64_in _ (by omega)
        have s3 : IntKind.i64.wrap ((rm : Int) - us + ho) = (rm : Int) - us + ho := IntWalk.i64_in _ (by omega)
        unfold sv at HL ⊢
        by_cases hgt : (bs.length : Int) > (rm : Int) - us + ho
        · have HR := hid (show d.writeAt name 0 bs = (d, 7) by unfold Dk.writeAt; rw [if_pos (by rw [hho, hus, hrm]; omega)])
          have hgt' : decide ((rm : Int) - us + ho < (bs.length : Int)) = true := decide_eq_true hgt
          go_enter Try.func29, Try.ntmps29
          go_wp2_with fail
          refine HL.out.mono ?_
          rintro e w1 ⟨rfl, g1⟩
          clear HL
          obtain ⟨i, hs, hlen, hlk⟩ := g1.view
          have hlk' := hlk name hn
          unfold sv at hlk'
          obtain ⟨c0, c1, c2, c3, c4⟩ := hs
          have HU := hid (used_held g1.drew (by omega))
          have G1 := hid g1
          rw [hho] at hlk'
          rw [hus] at HU
          rw [hrm] at c0
          clear g1 hlk hho hus
          go_wp2_with fail
          go_region_held3 (fun w' => w'.cell? ⟨p, 0, none⟩ = some (.int .i64 rm))
            (first | exact c0 | exact d0)
            (first
              | (go_at_call 25; refine HU.out.mono ?_; rintro e w2 ⟨rfl, g2⟩; have d0 := g2.room_cell; rw [hrm] at d0; have G2 := hid g2; clear g2))
          all_goals
            go_wp2_with fail
            go_ret
            rw [HE.out, HR.out]
            exact ⟨rfl, G2.out⟩
        · have HR := hid (show d.writeAt name 0 bs = (d.act ⟨0, name, 0, bs⟩, 0) by unfold Dk.writeAt; rw [if_neg (by rw [hho, hus, hrm]; omega)])
          have hgt' : decide ((rm : Int) - us + ho < (bs.length : Int)) = false := decide_eq_false hgt
          go_enter Try.func29, Try.ntmps29
          go_wp2_with fail
          refine HL.out.mono ?_
          rintro e w1 ⟨rfl, g1⟩
          clear HL
          obtain ⟨i, hs, hlen, hlk⟩ := g1.view
          have hlk' := hlk name hn
          unfold sv at hlk'
          obtain ⟨c0, c1, c2, c3, c4⟩ := hs
          have HU := hid (used_held g1.drew (by omega))
          have G1 := hid g1
          rw [hho] at hlk'
          rw [hus] at HU
          rw [hrm] at c0
          clear g1 hlk hho hus
          go_wp2_with fail
          go_region_held3 (fun w' => w'.cell? ⟨p, 0, none⟩ = some (.int .i64 rm))
            (first | exact c0 | exact d0)
            (first
              | (go_at_call 25; refine HU.out.mono ?_; rintro e w2 ⟨rfl, g2⟩; have d0 := g2.room_cell; rw [hrm] at d0; have G2 := hid g2; clear g2))
          all_goals
            have CC := hid (clone_held G2.out (fun _ => True) _ bs (hb w2 [rDisk p d] G2.out) (by omega))
            have hsz : 0 + bs.length ≤ 1073741824 := by omega
            clear s1 s2 s3 hgt hgt'
            go_wp2_with fail
            refine CC.out.mono ?_
            rintro e w3 ⟨v3, rfl, g3⟩
            obtain ⟨vA, vc, rfl, -, -⟩ := Held.form (l1 := []) g3
            have CD := hid (do_call 0 name 0 bs vA vc g3 HK.out hn (by decide) hsz hpl)
            unfold sv at CD
            clear g3
            go_wp2_with fail
            refine CD.out.mono ?_
            rintro e w4 ⟨rfl, g4⟩
            have G4 := hid g4
            clear g4
            go_wp2_with fail
            go_ret
            rw [HE.out, HR.out]
            exact ⟨rfl, G4.out⟩
    | some x =>
      have hx := Dk.Ok.len hok hg
      have HE := hid (show d.write name bs = d.writeAt name x.length bs by unfold Dk.write; rw [hm, hg]; rfl)
      have hat : x.length ≤ (Dict.get d.held name).getD 0 := (hok.seenLe name x hg).2
      have hhr : (Dict.get d.held name).getD 0 ≤ used d.held := hold_le hok.heldOk name
      have HL := hid (look_hit h hn hm hg)
      have HK := hid hok
      clear h hm hg hok
      generalize hho : (Dict.get d.held name).getD 0 = ho at *
      generalize hus : used d.held = us at *
      generalize hrm : d.room = rm at *
      have s1 : IntKind.i64.wrap ((rm : Int) - us) = (rm : Int) - us := IntWalk.i64_in _ (by omega)
      have s2 : IntKind.i64.wrap ((rm : Int) - us + ho) = (rm : Int) - us + ho := IntWalk.i64_in _ (by omega)
      have s3 : IntKind.i64.wrap ((rm : Int) - us + ho - (x.length : Int)) = (rm : Int) - us + ho - (x.length : Int) := IntWalk.i64_in _ (by omega)
      unfold sv at HL ⊢
      by_cases hgt : (bs.length : Int) > (rm : Int) - us + ho - (x.length : Int)
      · have HR := hid (show d.writeAt name x.length bs = (d, 7) by unfold Dk.writeAt; rw [if_pos (by rw [hho, hus, hrm]; omega)])
        have hgt' : decide ((rm : Int) - us + ho - (x.length : Int) < (bs.length : Int)) = true := decide_eq_true hgt
        go_enter Try.func29, Try.ntmps29
        go_wp2_with fail
        refine HL.out.mono ?_
        rintro e w1 ⟨b, A, c, rfl, hc, q1, q2, hr, g1⟩
        clear HL hr
        obtain ⟨i, hs, hlen, hlk⟩ := g1.view
        have hlk' := hlk name hn
        unfold sv at hlk'
        obtain ⟨c0, c1, c2, c3, c4⟩ := hs
        have HU := hid (used_held g1.drew (by omega))
        have G1 := hid g1
        rw [hho] at hlk'
        rw [hus] at HU
        rw [hrm] at c0
        clear g1 hlk hho hus
        go_wp2_with fail
        go_region_held3 (fun w' => w'.cell? ⟨p, 0, none⟩ = some (.int .i64 rm))
          (first | exact c0 | exact d0)
          (first
            | (go_at_call 25; refine HU.out.mono ?_; rintro e w2 ⟨rfl, g2⟩; have d0 := g2.room_cell; rw [hrm] at d0; have G2 := hid g2; clear g2))
        all_goals
          go_wp2_with fail
          go_ret
          rw [HE.out, HR.out]
          exact ⟨rfl, G2.out⟩
      · have HR := hid (show d.writeAt name x.length bs = (d.act ⟨0, name, x.length, bs⟩, 0) by unfold Dk.writeAt; rw [if_neg (by rw [hho, hus, hrm]; omega)])
        have hgt' : decide ((rm : Int) - us + ho - (x.length : Int) < (bs.length : Int)) = false := decide_eq_false hgt
        go_enter Try.func29, Try.ntmps29
        go_wp2_with fail
        refine HL.out.mono ?_
        rintro e w1 ⟨b, A, c, rfl, hc, q1, q2, hr, g1⟩
        clear HL hr
        obtain ⟨i, hs, hlen, hlk⟩ := g1.view
        have hlk' := hlk name hn
        unfold sv at hlk'
        obtain ⟨c0, c1, c2, c3, c4⟩ := hs
        have HU := hid (used_held g1.drew (by omega))
        have G1 := hid g1
        rw [hho] at hlk'
        rw [hus] at HU
        rw [hrm] at c0
        clear g1 hlk hho hus
        go_wp2_with fail
        go_region_held3 (fun w' => w'.cell? ⟨p, 0, none⟩ = some (.int .i64 rm))
          (first | exact c0 | exact d0)
          (first
            | (go_at_call 25; refine HU.out.mono ?_; rintro e w2 ⟨rfl, g2⟩; have d0 := g2.room_cell; rw [hrm] at d0; have G2 := hid g2; clear g2))
        all_goals
          have CC := hid (clone_held G2.out (fun _ => True) _ bs (hb w2 [rDisk p d] G2.out) (by omega))
          have hsz : x.length + bs.length ≤ 1073741824 := by omega
          clear s1 s2 s3 hgt hgt'
          go_wp2_with fail
          refine CC.out.mono ?_
          rintro e w3 ⟨v3, rfl, g3⟩
          obtain ⟨vA, vc, rfl, -, -⟩ := Held.form (l1 := []) g3
          have CD := hid (do_call 0 name x.length bs vA vc g3 HK.out hn (by decide) hsz hpl)
          unfold sv at CD
          clear g3
          go_wp2_with fail
          refine CD.out.mono ?_
          rintro e w4 ⟨rfl, g4⟩
          have G4 := hid g4
          clear g4
          go_wp2_with fail
          go_ret
          rw [HE.out, HR.out]
          exact ⟨rfl, G4.out⟩
end
end Go.Proofs.Ytkednbkildkkmaa
