/- Whether files fit: the program's fits. -/
import Derived.Test.YtfegfbhchdfibaaDiskMay
import Derived.Test.YtfegfbhchdfibaaQuietG
import Derived.Maps.AppendAt
import Derived.Deep.AppendLies
namespace Go.Proofs.Ytfegfbhchdfibaa
open Go.RowKit

namespace DK
def fitsB (d : D) (m : Files) : Bool := decide (m.length ≤ 16) && decide ((blocks m : Int) ≤ d.room)
end DK

theorem info_str : (Try.prog.info? 9).map (fun i => (i.zero, i.size, i.bytes)) = some (some (.string ByteArray.empty), 1, 16) := by kernel_rfl
theorem row_strs {W : World} {base : Nat} {e : TypeId} {p : Option Addr} {n c : Nat} {l : List ByteArray} (h : W.ownsRow base e 1 (.slice p n c) n (l.map Value.string)) (hn : l.length = n) (h0 : 0 < n) : ∃ g, p = some ⟨g, 0, none⟩ ∧ StrsAt W g 0 l := by
  rcases h.2 with ⟨hv, h1⟩ | ⟨g, cap, cur, hv, hb, hg, hn', hc, hs, hx⟩
  · omega
  · injection hv with e1 e2 e3
    subst e1
    refine ⟨g, rfl, fun i hi => ?_⟩
    have k1 := h.cellAt i (by omega)
    rw [Nat.zero_add, k1, List.getElem?_map, List.getElem?_eq_getElem hi]
    rfl

set_option maxRecDepth 100000 in
set_option maxHeartbeats 1000000 in
theorem disk_fits {w : World} {S : Nat → Prop} {B : Nat} {d : DK.D} (h : DiskAt w S B d) (b : Nat) (m : DK.Files) (hf : FilesAt w b m) (hs : DK.Small 1073741824 m) :
    Calls Try.prog 28 #[.pointer (some ⟨B, 0, none⟩), .map (some b)] w fun e w' => e = .returned (.bool (DK.fitsB d m)) ∧ Ext w w' := by
  obtain ⟨bs, bn, v, h⟩ := h
  have c0 := cell_ext h.cells.c0
  have hlen := fun (p : ExtOf w) => (hf.ext p.ext).len 3
  have hb := fun (p : ExtOf w) => files_blocks b m p.to (hf.ext p.ext) hs
  have HB := Lib.hid hb
  have hr : DK.fitsB d m = (decide (m.length ≤ 16) && decide ((DK.blocks m : Int) ≤ d.room)) := rfl
  rw [hr]
  generalize DK.blocks m = z at *
  generalize d.room = room at *
  generalize hml : m.length = n at *
  clear h hf hs hb hr hml
  by_cases h16 : n ≤ 16
  · have h1 : decide ((n : Int) ≤ 16) = true := decide_eq_true (by omega)
    have h2 : decide (n ≤ 16) = true := decide_eq_true h16
    rw [h2]
    go_enter Try.func28, Try.ntmps28
    go_wp2
    refine wp_region_quiet_ext (by kernel_rfl) (by kernel_rfl) ?_
    repeat (go_big_quiet_step (first | (go_at_call 41; exact calls_ext (HB.out _))))
    refine wpQuiet_nil ?_
    intro w4 g4
    go_wp2
    go_ret
    exact ⟨rfl, g4⟩
  · have h1 : decide ((n : Int) ≤ 16) = false := decide_eq_false (by omega)
    have h2 : decide (n ≤ 16) = false := decide_eq_false h16
    rw [h2]
    go_enter Try.func28, Try.ntmps28
    go_wp2
    refine wp_region_quiet_ext (by kernel_rfl) (by kernel_rfl) ?_
    repeat (go_big_quiet_step (first | fail))
    refine wpQuiet_nil ?_
    intro w4 g4
    go_wp2
    go_ret
    exact ⟨rfl, g4⟩
end Go.Proofs.Ytfegfbhchdfibaa
