/- The names of a disk's files: sorted as they are. -/
import Derived.Test.YtfegfbhchdfibaaDiskNames
import Derived.Test.YtfegfbhchdfibaaDiskUse
import Derived.Sort.KeysCollected
namespace Go.Proofs.Ytfegfbhchdfibaa
open Go.Shelf Go.RowKit Go.Maps Go.Sort

namespace DK
def rise (m : Files) : Prop := m.Pairwise fun a b => lt a.1 b.1 = true
theorem bytes_lt : ∀ a b : List UInt8, bytesBefore a b = true → a < b
  | [], [], h => by cases h
  | [], _ :: _, _ => List.nil_lt_cons _ _
  | _ :: _, [], h => by cases h
  | a :: r, b :: s, h => by
    unfold bytesBefore at h
    rw [Bool.or_eq_true, Bool.and_eq_true, decide_eq_true_eq, beq_iff_eq] at h
    exact List.cons_lt_cons_iff.2 (h.imp id fun ⟨e, h⟩ => ⟨e, bytes_lt r s h⟩)
def keysL (m : Files) : List (List UInt8) := m.map fun p => p.1.data.toList
theorem keys_dOf (m : Files) : strKeys (dOf m) = keysL m := by
  show (m.map ent).map (fun p => strOf p.1) = keysL m
  rw [List.map_map]
  rfl
theorem sort_keys {m : Files} (h : rise m) {ss : List (List UInt8)} (hp : ss.Perm (keysL m)) : ss.mergeSort leB = keysL m := by
  rw [mergeSort_of_perm hp]
  refine List.mergeSort_of_pairwise ?_
  unfold keysL
  refine List.pairwise_map.2 (h.imp fun {a b} hab => ?_)
  exact decide_eq_true (List.le_of_lt (bytes_lt _ _ hab))
theorem enc_keys (m : Files) : (keysL m).map Go.Proofs.encStr = m.map fun p => Value.string p.1 := by
  unfold keysL
  rw [List.map_map]
  rfl
def namesV (d : D) : List Value := if d.dead = true then [] else d.now.map fun p => Value.string p.1
end DK
theorem FilesAt.rise {w : World} {b : Nat} {m : DK.Files} (h : FilesAt w b m) : DK.rise m := by
  obtain ⟨es, e, h1, _⟩ := World.ownsMap.canon h keyedS
  unfold DK.dOf at e
  injection e with e
  subst e
  exact List.pairwise_map.1 h1

set_option maxRecDepth 100000 in
theorem names_nil (w : World) : Calls Try.prog 15 #[.pointer none] w fun e w' => e = .returned (.slice none 0 0) ∧ w = w' := by
  go_enter Try.func15, Try.ntmps15
  go_wp2_with fail
  refine (dead_nil w).mono ?_
  rintro e w' ⟨rfl, rfl⟩
  go_wp2
  go_ret
  exact ⟨rfl, rfl⟩

set_option maxRecDepth 100000 in
theorem disk_names {w : World} {S : Nat → Prop} {B : Nat} {d : DK.D} (h : DiskAt w S B d) (hs : d.now.length ≤ 1073741824) :
    Calls Try.prog 15 #[.pointer (some ⟨B, 0, none⟩)] w fun e w' => ∃ v, e = .returned v ∧ w'.ownsRow w.heap.size 9 1 v (DK.namesV d).length (DK.namesV d) ∧ Ext w w' := by
  have hd := disk_dead h
  have hu : DK.namesV d = if d.dead = true then [] else d.now.map fun p => Value.string p.1 := rfl
  obtain ⟨bs, bn, v, hi⟩ := h
  have c2 := hi.cells.c2
  have hri := FilesAt.rise hi.now
  have hno := hi.now
  have hbl := hno.lt
  cases hdd : d.dead with
  | true =>
    rw [hdd] at hd hu
    simp only [if_true] at hu
    rw [hu]
    have HD := Lib.hid hd
    clear hd hu hi hdd hno
    go_enter Try.func15, Try.ntmps15
    go_wp2_with fail
    refine HD.out.mono ?_
    rintro e w' ⟨rfl, rfl⟩
    go_wp2
    go_ret
    exact ⟨_, rfl, World.ownsRow_nil _ _ _ _, Ext.refl _⟩
  | false =>
    rw [hdd] at hd hu
    rw [if_neg (by simp)] at hu
    have hseq : SeqGives Fence.wide 2 Try.prog 49 #[.pointer (some ⟨w.heap.size, 0, none⟩)] Go.Proofs.encStr (fun ss => ss.Perm (strKeys (DK.dOf d.now))) (Maps.size (DK.dOf d.now)) (w.alloc (.cells #[.map (some bn)] 53)) :=
      AnyZ.keys_gives (ρ := Try.keysF_ren) { Try.keysF with } Fence.wide _ trivial rfl (by omega) w.heap.size bn _ (DK.dOf d.now) _ (by simp) (by simp) (by
        obtain ⟨es, clock, hb, Ft, hs, hD⟩ := hno
        exact ⟨es, clock, (Below.heap_alloc _ _ bn hbl).trans hb, Ft, hs, hD⟩)
    have cK : Calls Try.prog 37 #[.map (some bn)] w fun e w' => e = .returned (.func (.func 49) #[] #[.pointer (some ⟨w.heap.size, 0, none⟩)]) ∧ w' = w.alloc (.cells #[.map (some bn)] 53) := callsIn_wide.1 (AnyZ.keys_in Try.keysF Fence.wide 5 trivial rfl (some bn) w)
    have hsz : Maps.size (DK.dOf d.now) = d.now.length := DK.dOf_size _
    have cS := AnyZ.sorted_in Try.sortedF Fence.wide 5 trivial trivial trivial trivial rfl (by omega) (sorts_in _) (enters_of Try.func48 (by kernel_rfl) rfl) 49 #[.pointer (some ⟨w.heap.size, 0, none⟩)] trivial (enters_of Try.func49 (by kernel_rfl) rfl) _ _ (by rw [hsz]; unfold maxLen; omega) (by rw [hsz]; omega) _ hseq
    have cS := callsIn_wide.1 cS
    change Calls Try.prog 36 _ _ _ at cS
    have HD := Lib.hid hd
    have HK := Lib.hid cK
    have HSo := Lib.hid cS
    clear hd hi hdd hno hseq cK cS
    go_enter Try.func15, Try.ntmps15
    go_wp2_with fail
    refine HD.out.mono ?_
    rintro e w' ⟨rfl, rfl⟩
    go_wp2_with fail
    refine HK.out.mono ?_
    rintro e w' ⟨rfl, rfl⟩
    go_wp2_with fail
    refine HSo.out.mono ?_
    rintro e w' ⟨v, ss, rfl, hS, hrow, hnil, hb⟩
    go_wp2
    go_ret
    rw [DK.keys_dOf] at hS
    have e1 := DK.sort_keys hri hS
    have e2 : ss.length = d.now.length := by have := hS.length_eq; unfold DK.keysL at this; rwa [List.length_map] at this
    rw [show (fun x y => decide (x ≤ y)) = leB from rfl, e1, DK.enc_keys, e2] at hrow
    refine ⟨v, rfl, ?_, ((Below.refl _ w).alloc (Nat.le_refl _) _).trans (hb.mono (by simp))⟩
    rw [hu, List.length_map]
    exact ownsRow_base_a hrow (by simp)
end Go.Proofs.Ytfegfbhchdfibaa
