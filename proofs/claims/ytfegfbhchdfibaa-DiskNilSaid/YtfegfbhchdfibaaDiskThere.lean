/- Why nothing can be done with a file: the program's there; whether files fit: its fits. -/
import Derived.Test.YtfegfbhchdfibaaDiskMay
import Derived.Test.YtfegfbhchdfibaaQuietG
import Derived.Maps.AppendAt
import Derived.Deep.AppendLies
namespace Go.Proofs.Ytfegfbhchdfibaa
open Go.RowKit

namespace DK
noncomputable def thereE (d : D) (l : List ByteArray) (name : ByteArray) : Int := if mayE d.dead l = 0 then (if has d.now name = true then 0 else 3) else mayE d.dead l
def fitsB (d : D) (m : Files) : Bool := decide (m.length ≤ 16) && decide ((blocks m : Int) ≤ d.room)
end DK

theorem info_str : (Try.prog.info? 9).map (fun i => (i.zero, i.size, i.bytes)) = some (some (.string ByteArray.empty), 1, 16) := by kernel_rfl
theorem row_strs {W : World} {base : Nat} {e : TypeId} {p : Option Addr} {n c : Nat} {l : List ByteArray} (h : W.ownsRow base e 1 (.slice p n c) n (l.map Value.string)) (hn : l.length = n) (h0 : 0 < n) : ∃ g, p = some ⟨g, 0, none⟩ ∧ StrsAt W g 0 l := by
  rcases h.2 with ⟨hv, h1⟩ | ⟨g, cap, cur, hv, hb, hg, hn', hc, hs, hx⟩
  · omega
  · injection hv with e1 e2 e3
    subst e1
    refine ⟨g, rfl, fun i hi => ?_⟩
    have k1 := h.cellAt i (by omega)
    rw [Nat.zero_add, k1, List.getElem?_map, List.getElem?_eq_getElem hi]
    rfl

set_option maxRecDepth 100000 in
set_option maxHeartbeats 1000000 in
theorem disk_there {w0 w : World} {S : Nat → Prop} {B : Nat} {d : DK.D} (h : DiskAt w0 S B d) (he : Ext w0 w) (p : Option Addr) (n c : Nat) (l : List ByteArray) (hl : l.length = n) (hn : n ≤ 900) (name : ByteArray)
    (hrow : w.ownsRow w0.heap.size 9 1 (.slice p n c) n (l.map Value.string)) (hs : ∀ s ∈ l ++ [name], s.size ≤ 2199023255552) :
    Calls Try.prog 31 #[.pointer (some ⟨B, 0, none⟩), .string name, .slice p n c] w fun e w' => e = .returned (.int .i64 (DK.thereE d (l ++ [name]) name)) ∧ Ext w0 w' := by
  obtain ⟨i0, hi, hz0, hz1, hz2⟩ := info_parts info_str
  have hll : (l ++ [name]).length = n + 1 := by rw [List.length_append, hl]; rfl
  have hmay := fun (W : World) (hW : Ext w0 W) (g cap : Nat) (hr : W.ownsRow w0.heap.size 9 1 (.slice (some ⟨g, 0, none⟩) (n + 1) cap) (n + 1) ((l ++ [name]).map Value.string)) => (by
    obtain ⟨g', e, hst⟩ := row_strs hr hll (by omega)
    injection e with e
    injection e with e
    subst e
    exact disk_may (h.ext hW) g 0 (n + 1) cap (l ++ [name]) hll (by omega) hst hs : Calls Try.prog 24 #[.pointer (some ⟨B, 0, none⟩), .slice (some ⟨g, 0, none⟩) (n + 1) cap] W fun e w' => e = .returned (.int .i64 (DK.mayE d.dead (l ++ [name]))) ∧ W = w')
  have HMAY := Lib.hid hmay
  have hsz := he.size
  have hnm := hs name (by simp)
  have hth : DK.thereE d (l ++ [name]) name = if DK.mayE d.dead (l ++ [name]) = 0 then (if DK.has d.now name = true then 0 else 3) else DK.mayE d.dead (l ++ [name]) := rfl
  rw [hth]
  clear hth hmay hs
  generalize DK.mayE d.dead (l ++ [name]) = e0 at *
  obtain ⟨bs, bn, v, h⟩ := h
  have hc2 := h.cells.c2
  have hlo := fun (W : World) (hW : Ext w0 W) => (h.now.ext hW).look_ok name (by unfold maxLen; omega)
  have HLO := Lib.hid hlo
  have HC := Lib.hid hc2
  have HE := Lib.hid he
  have HROW := Lib.hid (hrow.alloc (.cells #[.string name] 9))
  generalize DK.has d.now name = hb at *
  generalize DK.get d.now name = was at *
  have hb3 : w0.heap.size ≤ (w.alloc (.cells #[.string name] 9)).heap.size := by rw [World.size_alloc]; omega
  have hb1 : n + 1 ≤ maxLen := by unfold maxLen; omega
  have hb2 : (n + 1) * 16 ≤ 140737488355328 := by omega
  have happ : l.map Value.string ++ [.string name] = (l ++ [name]).map Value.string := by rw [List.map_append]; rfl
  have HAPP := Lib.hid happ
  have HLL := Lib.hid hll
  clear h hlo hc2 he hrow happ hll
  go_enter Try.func31, Try.ntmps31
  go_wp2_with (at_builtin; refine wpList_append_lies _ rfl _ _ 27 rfl w0.heap.size 9 i0 (.string ByteArray.empty) 1 16 Try.underlying27 hi hz0 hz1 hz2 rfl (by decide) _ n _ rfl HROW.out ⟨w.heap.size, 0, none⟩ 1 1 [.string name] rfl rfl (cell_one_new _ _ _) (by intro u hu; simp at hu; subst hu; rfl) (by decide) hb1 hb2 hb3 _ rfl ?_; intro g cap w1 hown hgrow hat hgl; rw [HAPP.out] at hown; have HX1 := Lib.hid (ext_grownV (HE.out.alloc (.cells #[.string name] 9)) HROW.out hgrow (Nat.le_refl _)); have HW1 := Lib.hid hown; clear hown hgrow hat hgl)
  refine (HMAY.out _ HX1.out _ _ HW1.out).mono ?_
  rintro e w2 ⟨rfl, rfl⟩
  by_cases h0 : e0 = 0
  · subst h0
    have k2 := HX1.out.cell HC.out
    have hlk := HLO.out _ HX1.out
    cases hb with
    | true =>
      go_wp2
      go_ret
      exact ⟨rfl, HX1.out.alloc _⟩
    | false =>
      go_wp2
      go_ret
      exact ⟨rfl, HX1.out.alloc _⟩
  · have h1 : (e0 != 0) = true := by rw [bne_iff_ne]; exact h0
    go_wp2
    go_ret
    exact ⟨rfl, HX1.out⟩

set_option maxRecDepth 100000 in
theorem there_nil (p : Option Addr) (n c : Nat) (l : List ByteArray) (hl : l.length = n) (hn : n ≤ 900) (name : ByteArray) (w0 w : World) (he : Ext w0 w) (hrow : w.ownsRow w0.heap.size 9 1 (.slice p n c) n (l.map Value.string)) :
    Calls Try.prog 31 #[.pointer none, .string name, .slice p n c] w fun e w' => e = .returned (.int .i64 10) ∧ Ext w0 w' := by
  obtain ⟨i0, hi, hz0, hz1, hz2⟩ := info_parts info_str
  have hsz := he.size
  have HE := Lib.hid he
  have HROW := Lib.hid (hrow.alloc (.cells #[.string name] 9))
  have hb3 : w0.heap.size ≤ (w.alloc (.cells #[.string name] 9)).heap.size := by rw [World.size_alloc]; omega
  have hb1 : n + 1 ≤ maxLen := by unfold maxLen; omega
  have hb2 : (n + 1) * 16 ≤ 140737488355328 := by omega
  clear he hrow
  go_enter Try.func31, Try.ntmps31
  go_wp2_with (at_builtin; refine wpList_append_lies _ rfl _ _ 27 rfl w0.heap.size 9 i0 (.string ByteArray.empty) 1 16 Try.underlying27 hi hz0 hz1 hz2 rfl (by decide) _ n _ rfl HROW.out ⟨w.heap.size, 0, none⟩ 1 1 [.string name] rfl rfl (cell_one_new _ _ _) (by intro u hu; simp at hu; subst hu; rfl) (by decide) hb1 hb2 hb3 _ rfl ?_; intro g cap w1 hown hgrow hat hgl; have HX1 := Lib.hid (ext_grownV (HE.out.alloc (.cells #[.string name] 9)) HROW.out hgrow (Nat.le_refl _)); clear hown hgrow hat hgl)
  refine (may_nil _ _ _ _).mono ?_
  rintro e w2 ⟨rfl, rfl⟩
  go_wp2
  go_ret
  exact ⟨rfl, HX1.out⟩

set_option maxRecDepth 100000 in
set_option maxHeartbeats 1000000 in
theorem disk_fits {w : World} {S : Nat → Prop} {B : Nat} {d : DK.D} (h : DiskAt w S B d) (b : Nat) (m : DK.Files) (hf : FilesAt w b m) (hs : DK.Small 1073741824 m) :
    Calls Try.prog 28 #[.pointer (some ⟨B, 0, none⟩), .map (some b)] w fun e w' => e = .returned (.bool (DK.fitsB d m)) ∧ Ext w w' := by
  obtain ⟨bs, bn, v, h⟩ := h
  have c0 := cell_ext h.cells.c0
  have hlen := fun (p : ExtOf w) => (hf.ext p.ext).len 3
  have hb := fun (p : ExtOf w) => files_blocks b m p.to (hf.ext p.ext) hs
  have HB := Lib.hid hb
  have hr : DK.fitsB d m = (decide (m.length ≤ 16) && decide ((DK.blocks m : Int) ≤ d.room)) := rfl
  rw [hr]
  generalize DK.blocks m = z at *
  generalize d.room = room at *
  generalize hml : m.length = n at *
  clear h hf hs hb hr hml
  by_cases h16 : n ≤ 16
  · have h1 : decide ((n : Int) ≤ 16) = true := decide_eq_true (by omega)
    have h2 : decide (n ≤ 16) = true := decide_eq_true h16
    rw [h2]
    go_enter Try.func28, Try.ntmps28
    go_wp2
    refine wp_region_quiet_ext (by kernel_rfl) (by kernel_rfl) ?_
    repeat (go_big_quiet_step (first | (go_at_call 41; exact calls_ext (HB.out _))))
    refine wpQuiet_nil ?_
    intro w4 g4
    go_wp2
    go_ret
    exact ⟨rfl, g4⟩
  · have h1 : decide ((n : Int) ≤ 16) = false := decide_eq_false (by omega)
    have h2 : decide (n ≤ 16) = false := decide_eq_false h16
    rw [h2]
    go_enter Try.func28, Try.ntmps28
    go_wp2
    refine wp_region_quiet_ext (by kernel_rfl) (by kernel_rfl) ?_
    repeat (go_big_quiet_step (first | fail))
    refine wpQuiet_nil ?_
    intro w4 g4
    go_wp2
    go_ret
    exact ⟨rfl, g4⟩
end Go.Proofs.Ytfegfbhchdfibaa
