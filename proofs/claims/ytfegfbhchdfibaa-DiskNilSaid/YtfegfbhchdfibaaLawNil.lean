/- The walk of DiskNil: what none answers. -/
import Derived.Test.YtfegfbhchdfibaaDiskAwake
import Derived.Test.YtfegfbhchdfibaaActs
import Derived.Test.YtfegfbhchdfibaaLaw
namespace Go.Proofs.Ytfegfbhchdfibaa
open Go.RowKit

set_option maxRecDepth 100000 in
theorem names_nil (w : World) : Calls Try.prog 15 #[.pointer none] w fun e w' => e = .returned (.slice none 0 0) ∧ w = w' := by
  go_enter Try.func15, Try.ntmps15
  go_wp2_with fail
  refine (dead_nil w).mono ?_
  rintro e w' ⟨rfl, rfl⟩
  go_wp2
  go_ret
  exact ⟨rfl, rfl⟩

set_option maxRecDepth 100000 in
set_option maxHeartbeats 2000000 in
theorem law_nil (k a n : Int) (name to_ s : ByteArray) (w : World) :
    Calls Try.prog 5 #[.agg #[.int .i64 k, .string name, .string to_, .int .i64 a, .int .i64 n, .string s]] w fun e w' => e = .returned (.bool true) ∧ Ext w w' := by
  have x1 := (Ext.refl w).alloc (.cells #[.int .i64 k, .string name, .string to_, .int .i64 a, .int .i64 n, .string s] 29)
  have h1 : (w.alloc (.cells #[.int .i64 k, .string name, .string to_, .int .i64 a, .int .i64 n, .string s] 29)).cell? ⟨w.heap.size, 1, none⟩ = some (.string name) := alloc_cell w _ _ 1
  have h2 : (w.alloc (.cells #[.int .i64 k, .string name, .string to_, .int .i64 a, .int .i64 n, .string s] 29)).cell? ⟨w.heap.size, 2, none⟩ = some (.string to_) := alloc_cell w _ _ 2
  have h3 : (w.alloc (.cells #[.int .i64 k, .string name, .string to_, .int .i64 a, .int .i64 n, .string s] 29)).cell? ⟨w.heap.size, 3, none⟩ = some (.int .i64 a) := alloc_cell w _ _ 3
  have h4 : (w.alloc (.cells #[.int .i64 k, .string name, .string to_, .int .i64 a, .int .i64 n, .string s] 29)).cell? ⟨w.heap.size, 4, none⟩ = some (.int .i64 n) := alloc_cell w _ _ 4
  have h5 : (w.alloc (.cells #[.int .i64 k, .string name, .string to_, .int .i64 a, .int .i64 n, .string s] 29)).cell? ⟨w.heap.size, 5, none⟩ = some (.string s) := alloc_cell w _ _ 5
  have H := Lib.hid (And.intro h1 (And.intro h2 (And.intro h3 (And.intro h4 h5))))
  have HX := Lib.hid x1
  clear x1
  go_enter Try.func5, Try.ntmps5
  go_wp2_with fail
  refine (fuse_nil _ _).mono ?_
  rintro e w' ⟨rfl, rfl⟩
  go_wp2_with fail
  refine (crash_nil _ _ _).mono ?_
  rintro e w' ⟨rfl, rfl⟩
  clear h4
  go_wp2_with fail
  refine (read_nil _ _).mono ?_
  rintro e w' ⟨rfl, rfl⟩
  go_wp2_with fail
  refine (write_nil _ _ _ _).mono ?_
  rintro e w2 ⟨rfl, g2⟩
  have y21 := g2.cell h1
  have y22 := g2.cell h2
  have y23 := g2.cell h3
  have y25 := g2.cell h5
  have G2 := Lib.hid g2
  clear g2 h1 h2 h3 h5
  go_wp2_with fail
  refine (cut_nil _ _ _).mono ?_
  rintro e w3 ⟨rfl, g3⟩
  have y31 := g3.cell y21
  have y32 := g3.cell y22
  have y33 := g3.cell y23
  have y35 := g3.cell y25
  have G3 := Lib.hid g3
  clear g3 y21 y22 y23 y25
  go_wp2_with fail
  refine (move_nil _ _ _).mono ?_
  rintro e w4 ⟨rfl, g4⟩
  have y41 := g4.cell y31
  have y42 := g4.cell y32
  have y43 := g4.cell y33
  have y45 := g4.cell y35
  have G4 := Lib.hid g4
  clear g4 y31 y32 y33 y35
  go_wp2_with fail
  refine (drop_nil _ _).mono ?_
  rintro e w5 ⟨rfl, g5⟩
  have y51 := g5.cell y41
  have y52 := g5.cell y42
  have y53 := g5.cell y43
  have y55 := g5.cell y45
  have G5 := Lib.hid g5
  clear g5 y41 y42 y43 y45
  go_wp2_with fail
  refine (sync_nil _).mono ?_
  rintro e w' ⟨rfl, rfl⟩
  go_wp2_with fail
  refine (names_nil _).mono ?_
  rintro e w' ⟨rfl, rfl⟩
  go_wp2_with fail
  refine (used_nil _).mono ?_
  rintro e w' ⟨rfl, rfl⟩
  go_wp2_with fail
  refine (pending_nil _).mono ?_
  rintro e w' ⟨rfl, rfl⟩
  go_wp2_with fail
  refine (dead_nil _).mono ?_
  rintro e w' ⟨rfl, rfl⟩
  go_wp2_with fail
  refine (disk_awake _).mono ?_
  rintro e w9 ⟨rfl, g9⟩
  go_wp2
  go_ret
  exact ⟨rfl, ((((HX.out.trans G2.out).trans G3.out).trans G4.out).trans G5.out).trans g9⟩
end Go.Proofs.Ytfegfbhchdfibaa
