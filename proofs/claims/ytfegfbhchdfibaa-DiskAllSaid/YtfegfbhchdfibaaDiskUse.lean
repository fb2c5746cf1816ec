/- How many steps are pending; how many blocks are used, and free. -/
import Derived.Test.YtfegfbhchdfibaaDiskSync
namespace Go.Proofs.Ytfegfbhchdfibaa
open Go.RowKit

set_option maxRecDepth 100000 in
theorem disk_pending {w : World} {S : Nat → Prop} {B : Nat} {d : DK.D} (h : DiskAt w S B d) : Calls Try.prog 19 #[.pointer (some ⟨B, 0, none⟩)] w fun e w' => e = .returned (.int .i64 d.todo.length) ∧ w = w' := by
  obtain ⟨bs, bn, v, hi⟩ := h
  have c3 := hi.cells.c3
  have hv : ∃ p c, v = .slice p d.todo.length c := by
    obtain ⟨xs, _, hrow, _⟩ := hi.steps
    exact row_slice hrow
  obtain ⟨p, c, rfl⟩ := hv
  clear hi
  generalize d.todo.length = n at *
  go_enter Try.func19, Try.ntmps19
  go_wp2
  go_ret
  exact ⟨rfl, rfl⟩
set_option maxRecDepth 100000 in
theorem pending_nil (w : World) : Calls Try.prog 19 #[.pointer none] w fun e w' => e = .returned (.int .i64 0) ∧ w = w' := by
  go_enter Try.func19, Try.ntmps19
  go_wp2
  go_ret
  exact ⟨rfl, rfl⟩

set_option maxRecDepth 100000 in
theorem used_nil (w : World) : Calls Try.prog 21 #[.pointer none] w fun e w' => e = .returned (.int .i64 0) ∧ w = w' := by
  go_enter Try.func21, Try.ntmps21
  go_wp2_with fail
  refine (dead_nil w).mono ?_
  rintro e w' ⟨rfl, rfl⟩
  go_wp2
  go_ret
  exact ⟨rfl, rfl⟩

set_option maxRecDepth 100000 in
theorem disk_used {w : World} {S : Nat → Prop} {B : Nat} {d : DK.D} (h : DiskAt w S B d) (hs : DK.Small 1073741824 d.now) :
    Calls Try.prog 21 #[.pointer (some ⟨B, 0, none⟩)] w fun e w' => e = .returned (.int .i64 (DK.used d)) ∧ Ext w w' := by
  have hd := disk_dead h
  have hu : DK.used d = if d.dead = true then 0 else (DK.blocks d.now : Int) := rfl
  obtain ⟨bs, bn, v, hi⟩ := h
  have hb := files_blocks bn d.now w hi.now hs
  have c2 := hi.cells.c2
  cases hdd : d.dead with
  | true =>
    rw [hdd] at hd hu
    simp only [if_true] at hu
    rw [hu]
    have HD := Lib.hid hd
    clear hd hu hi hdd hb
    go_enter Try.func21, Try.ntmps21
    go_wp2_with fail
    refine HD.out.mono ?_
    rintro e w' ⟨rfl, rfl⟩
    go_wp2
    go_ret
    exact ⟨rfl, Ext.refl _⟩
  | false =>
    rw [hdd] at hd hu
    rw [if_neg (by simp)] at hu
    rw [hu]
    have HD := Lib.hid hd
    have HB := Lib.hid hb
    generalize DK.blocks d.now = z at *
    clear hd hu hi hdd hb hs
    go_enter Try.func21, Try.ntmps21
    go_wp2_with fail
    refine HD.out.mono ?_
    rintro e w' ⟨rfl, rfl⟩
    go_wp2_with fail
    refine HB.out.mono ?_
    rintro e w' ⟨rfl, g⟩
    go_wp2
    go_ret
    exact ⟨rfl, g⟩

set_option maxRecDepth 100000 in
theorem disk_free {w : World} {S : Nat → Prop} {B : Nat} {d : DK.D} (h : DiskAt w S B d) (hs : DK.Small 1073741824 d.now) (hr : 0 ≤ d.room ∧ d.room ≤ 32768) :
    Calls Try.prog 42 #[.pointer (some ⟨B, 0, none⟩)] w fun e w' => e = .returned (.int .i64 (DK.free d)) ∧ Ext w w' := by
  have hd := disk_dead h
  have hu : DK.free d = if d.dead = true then 0 else d.room - (DK.blocks d.now : Int) := rfl
  obtain ⟨bs, bn, v, hi⟩ := h
  have hb := fun (p : ExtOf w) => files_blocks bn d.now p.to (hi.now.ext p.ext) hs
  have hsum := DK.sum_le 1073741824 d.now (fun p hp => (hs.2 p hp).2)
  have hbd : DK.blocks d.now ≤ 1073741824 * 1073741825 := Nat.le_trans hsum (Nat.mul_le_mul_right _ hs.1)
  have c2 := cell_ext hi.cells.c2
  have c0 := cell_ext hi.cells.c0
  cases hdd : d.dead with
  | true =>
    rw [hdd] at hd hu
    simp only [if_true] at hu
    rw [hu]
    have HD := Lib.hid hd
    clear hd hu hi hdd hb hbd hsum
    go_enter Try.func42, Try.ntmps42
    go_wp2_with fail
    refine HD.out.mono ?_
    rintro e w' ⟨rfl, rfl⟩
    go_wp2
    go_ret
    exact ⟨rfl, Ext.refl _⟩
  | false =>
    rw [hdd] at hd hu
    rw [if_neg (by simp)] at hu
    rw [hu]
    have HD := Lib.hid hd
    have HB := Lib.hid hb
    generalize DK.blocks d.now = z at *
    generalize d.room = room at *
    clear hd hu hi hdd hb hs hsum
    have hw : IntKind.i64.wrap (room - (z : Int)) = room - (z : Int) := IntWalk.i64_in _ ⟨by omega, by omega⟩
    go_enter Try.func42, Try.ntmps42
    go_wp2_with fail
    refine HD.out.mono ?_
    rintro e w' ⟨rfl, rfl⟩
    go_wp2
    refine wp_region_quiet_ext (by kernel_rfl) (by kernel_rfl) ?_
    repeat (go_big_quiet_step (first | (go_at_call 41; exact calls_ext (HB.out _))))
    refine wpQuiet_nil ?_
    intro w4 g4
    go_wp2
    go_ret
    exact ⟨rfl, g4⟩

end Go.Proofs.Ytfegfbhchdfibaa
