/- seglog: the laws' example, plain. -/
import Derived.Test.YtdbhccehbjhbpaaGreatDoorM3
import Derived.Test.YtdbhccehbjhbpaaGreatDoorM5

namespace Go.Proofs.YtdbhccehbjhbpaaGreatDoor.Slog
open Disk (Dk Deed Files Dict)

def ad0 : Dk := opened (Dk.empty 1000) []
def al0 : Lg := ⟨[], 1, 1, 1⟩
def as1 : Dk × Lg × Int × Int := append ad0 al0 [97]
def as2 : Dk × Lg × Int := sync as1.1 as1.2.1
def as3 : Dk × Lg × Int × Int := append as2.1 as2.2.1 [98]
def as4 : Dk × Lg × Int × Int := append as3.1 as3.2.1 [99]
def ad5 : Dk := as4.1.crash [false, true] 0
def az5 : Bytes := List.replicate 9 0 ++ framed 3 [99]

theorem begun_left (room : Nat) (h : room ≤ 16777216) : Left (Dk.empty room) [] := ⟨Disk.empty_ok h, fun ls s e => by simp at e, fun n x hx => by simp [Dk.empty, Dict.get] at hx⟩
theorem begun_good (room : Nat) (h : room ≤ 16777216) : Good (opened (Dk.empty room) []) ⟨[], 1, 1, 1⟩ :=
  (begun_left room h).open_ (k := 1) (n := 1) rfl ⟨Nat.le_refl _, fun _ => rfl⟩ (fun ls s e => by simp at e) ⟨by decide, fun s hs => by cases hs⟩
theorem a0_good : Good ad0 al0 := begun_good 1000 (by decide)
theorem a1_eq : as1.2.2 = (1, 0) ∧ as1.2.1.next = 2 := by constructor <;> rfl
theorem a1_good : Good as1.1 as1.2.1 := (a0_good.append (by decide) [97]).1
theorem a2_good : Good as2.1 as2.2.1 := a1_good.synced.1
theorem a2_next : as2.2.1.next = 2 := rfl
theorem a3_good : Good as3.1 as3.2.1 := (a2_good.append (by rw [a2_next]; decide) [98]).1
theorem a3_next : as3.2.1.next = 3 := rfl
theorem a4_good : Good as4.1 as4.2.1 := (a3_good.append (by rw [a3_next]; decide) [99]).1
theorem a5_seen : ad5.seen = [(nameB 1, framesOf 1 [[97]] ++ az5)] := by kernel_rfl
theorem az5_none : unframe az5 = none := by kernel_rfl
theorem a5_left : Left ad5 [(1, [[97]])] := by
  refine ⟨a4_good.ok.crash _ _, fun ls s e => ?_, fun n x hx => ?_⟩
  · have h1 : ls = [] := by
      cases ls with
      | nil => rfl
      | cons a b => have := congrArg List.length e; simp at this
    subst h1
    have h2 : s = (1, [[97]]) := by simpa using e.symm
    subst h2
    refine ⟨by simp, _, ?_, az5, rfl, az5_none⟩
    rw [a5_seen]
    simp [Dict.get]
  · rw [a5_seen] at hx
    refine ⟨(1, [[97]]), by simp, ?_⟩
    by_cases h : nameB 1 = n
    · exact h.symm
    · simp [Dict.get, h] at hx
theorem a5_pend : ad5.pending.length ≤ 1000 := by decide
end Go.Proofs.YtdbhccehbjhbpaaGreatDoor.Slog
