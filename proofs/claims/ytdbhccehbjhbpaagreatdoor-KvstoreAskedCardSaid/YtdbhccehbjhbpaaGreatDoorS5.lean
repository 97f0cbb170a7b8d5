/- slices.Sorted(maps.Keys(m)) at string keys, in my words; List. -/
import Derived.Test.YtdbhccehbjhbpaaGreatDoorS3
import Derived.Test.YtdbhccehbjhbpaaGreatDoorM5

namespace Go.Proofs.YtdbhccehbjhbpaaGreatDoor
open Go.RowKit Go.Maps Go.Sort Go.Shelf

theorem sortsS (m : Nat) : AnyZ.SortsIn Tryz.prog Tryz.sortedS_ren Fence.wide m :=
  ⟨fun blk off cap ss W hH hblk hsz => callsIn_wide.2 (AnyM.slices_Sort_string Tryz.sortS blk off cap ss W hH hblk hsz),
   fun p cap W => callsIn_wide.2 (AnyM.slices_Sort_string_none Tryz.sortS p cap W)⟩

theorem keys_str (mb : Option Nat) (W : World) : Calls Tryz.prog 150 #[.map mb] W fun e w' =>
    e = .returned (.func (.func 191) #[] #[.pointer (some ⟨W.heap.size, 0, none⟩)]) ∧ w' = W.alloc (.cells #[.map mb] 77) :=
  (callsIn_wide (n := 5)).1 (AnyZ.keys_in Tryz.keysS Fence.wide 5 trivial rfl mb W)

theorem encStr_sv (l : List UInt8) : encStr l = sv l := rfl

set_option maxRecDepth 100000 in
theorem sorted_str {L : List (Value × Value)} (ns : List Disk.Bytes) (b : Nat) (w : World) (h : MapAt Tryz.prog 9 w b L) (hL : L.map (·.1) = ns.map sv) (hln : ∀ n ∈ ns, n.length ≤ 9223372036854775807) (hn : ns.length ≤ 1000000) :
    Calls Tryz.prog 75 #[.func (.func 191) #[] #[.pointer (some ⟨w.heap.size, 0, none⟩)]] (w.alloc (.cells #[.map (some b)] 77)) fun e w' =>
      ∃ v F, e = .returned v ∧ Own 9 1 v ns.length ((ns.mergeSort Disk.leB).map sv) w' F ∧ Upd w w' [] F := by
  have hlen : L.length = ns.length := by have := congrArg List.length hL; simpa using this
  obtain ⟨es, hown, hes, hperm⟩ := h.owns (by unfold maxLen; omega)
  have hik : (Go.strKeys (.map es : DataW Unit)).Perm ns := by
    have h1 := hperm.map Go.strOf
    rw [List.map_map, List.map_map] at h1
    refine h1.trans (.of_eq ?_)
    have h2 : L.map (Go.strOf ∘ fun p => (keyOf Tryz.prog 9 p.1).getD (.bool false)) = (L.map (·.1)).map fun v => Go.strOf ((keyOf Tryz.prog 9 v).getD (.bool false)) := by rw [List.map_map]; rfl
    rw [h2, hL, List.map_map]
    conv => rhs; rw [← List.map_id ns]
    refine List.map_congr_left fun x hx => ?_
    simp only [Function.comp, svKey x (hln x hx), Option.getD_some, Go.strOf, id]
  have hbl := h.lt
  have hsz : Maps.size (.map es : DataW Unit) ≤ 1000000 := by rw [Maps.size_eq]; omega
  have hseq : SeqGives Fence.wide 2 Tryz.prog 191 #[.pointer (some ⟨w.heap.size, 0, none⟩)] encStr (fun ss => ss.Perm (Go.strKeys (.map es : DataW Unit))) (Maps.size (.map es : DataW Unit)) (w.alloc (.cells #[.map (some b)] 77)) :=
    AnyZ.keys_gives (ρ := Tryz.keysS_ren) { Tryz.keysS with } Fence.wide _ trivial rfl (by omega) w.heap.size b L.length _ _ (by simp) (by simp) (by
      obtain ⟨es, clock, hb, Ft, hs, hD⟩ := hown
      exact ⟨es, clock, (Below.heap_alloc _ _ b hbl).trans hb, Ft, hs, hD⟩)
  have cS := (callsIn_wide (n := 5)).1 (AnyZ.sorted_in Tryz.sortedS Fence.wide 5 trivial trivial trivial trivial rfl (by omega) (sortsS _) (enters_of Tryz.func131 (by kernel_rfl) rfl) 191 #[.pointer (some ⟨w.heap.size, 0, none⟩)] trivial (enters_of Tryz.func191 (by kernel_rfl) rfl) _ _ (by unfold maxLen; omega) (by omega) _ hseq)
  refine cS.mono ?_
  rintro e w' ⟨v, ss, rfl, hS, hrow, -, hb⟩
  have hss := hS.trans hik
  have hms : ss.mergeSort (fun x y => decide (x ≤ y)) = ns.mergeSort Disk.leB := mergeSort_of_perm hss
  have hrow' : w'.ownsRow 0 9 1 v ns.length ((ns.mergeSort Disk.leB).map sv) := by
    rw [← hms, ← hss.length_eq]
    exact ownsRow_base_a hrow (Nat.zero_le _)
  refine ⟨v, _, rfl, ⟨hrow', rfl⟩, (((Mod.refl (fun _ => False) w).alloc _).trans (Mod.of_below (S := fun _ => False) hb) (fun _ _ h => h)).mono (fun _ _ h => h.elim), Own.nodup (show Own _ 1 v _ _ w' _ from ⟨hrow', rfl⟩), fun k hk => .inr ?_⟩
  rcases hrow.2 with ⟨rfl, -⟩ | ⟨gb, cap, cur, rfl, hbase, -⟩
  · simp [Value.ownBlock] at hk
  · simp [Value.ownBlock] at hk
    subst hk
    simp at hbase
    omega

/-- a row of texts. -/
def rTexts (v : Value) (l : List Disk.Bytes) : Res := rOwn 9 v (l.map sv)
theorem Held.texts {w0 w : World} {B : List Res} {v : Value} {l : List Disk.Bytes} (h : Held w0 w (rTexts v l :: B)) : Rd (fun _ => True) w v (l.map sv) := Held.own_rd (l1 := []) h
theorem Held.texts_form {w0 w : World} {B : List Res} {v : Value} {l : List Disk.Bytes} (h : Held w0 w (rTexts v l :: B)) : ∃ A c, v = .slice A l.length c ∧ l.length ≤ c ∧ c ≤ 9223372036854775807 := by
  obtain ⟨A, c, hv, hc, hm, -⟩ := h.texts
  rw [List.length_map] at hv hc
  exact ⟨A, c, hv, hc, by unfold maxLen at hm; exact hm⟩

set_option maxRecDepth 100000 in
theorem list_held {w0 w : World} {B : List Res} {p : Nat} {d : Disk.Dk} (h : Held w0 w (rDisk p d :: B)) (hok : d.Ok) (hsl : d.seen.length ≤ 1000000) :
    Calls Tryz.prog 96 #[.pointer (some ⟨p, 0, none⟩)] w fun e w' => ∃ v, e = .returned v ∧ Held w0 w' (rTexts v d.list :: rDisk p d :: B) := by
  obtain ⟨⟨bs, bl, bh, vp⟩, h1⟩ := h.dopen
  obtain ⟨ys, hp, h2⟩ := Held.files_open (A := []) h1.pull1
  have c1 := (Held.blk0 h1).disk.c1
  have HM := hid (dmade_any w p (some bs) c1)
  have HK := hid (keys_str (some bs) w)
  have hks : (filesL ys).map (·.1) = (ys.map (fun y => y.1.1)).map sv := by simp [filesL]
  have hpn : (ys.map (fun y => y.1.1)).Perm (d.seen.map (·.1)) := by
    have := hp.map (·.1)
    rwa [List.map_map] at this
  have HS := hid (sorted_str (ys.map (fun y => y.1.1)) bs w h2.mapAt hks (fun n hn => by
    obtain ⟨q, hq, rfl⟩ := List.mem_map.1 (hpn.mem_iff.1 hn)
    have := may_len (hok.seenLe q.1 q.2 (Disk.get_of_mem hok.seenOk hq)).1
    omega) (by rw [hpn.length_eq]; simpa using hsl))
  have hsort : (ys.map (fun y => y.1.1)).mergeSort Disk.leB = d.list := mergeSort_of_perm hpn
  rw [hsort] at HS
  have HL := hid (show (ys.map (fun y => y.1.1)).length = (d.list.map sv).length by rw [← hsort]; simp)
  have HH := hid h
  clear h h1 h2 hp hks hpn hsort hok hsl
  go_enter Tryz.func96, Tryz.ntmps96
  go_wp2_with (first
    | (go_at_call 147; refine HM.out.mono ?_; rintro e w' ⟨rfl, rfl⟩)
    | (go_at_call 150; refine HK.out.mono ?_; rintro e w' ⟨rfl, rfl⟩))
  refine HS.out.mono ?_
  rintro e w' ⟨v, F', rfl, ho, hu⟩
  have HP := hid (And.intro ho hu)
  clear ho hu HS
  go_wp2
  go_ret
  exact ⟨_, rfl, HH.out.more (F := F') (show Own _ 1 v (d.list.map sv).length _ _ _ by rw [← HL.out]; exact HP.out.1) HP.out.2⟩
end Go.Proofs.YtdbhccehbjhbpaaGreatDoor
