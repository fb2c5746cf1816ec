/- What slices.Sort makes of numbers. -/
import Derived.Test.YtcnjklbmlplehaaGraphNew
import Derived.Shelf.Sort.Plain
import Derived.Shelf.Slices.In.SortNone
namespace Go.Proofs.Ytcnjklbmlplehaa
open Go.Shelf Go.RowKit Go.Lib Go.Sort
def Try.sortInts_ren : Go.Shelf.Ren := ⟨fun | 189 => 59 | 125 => 41 | 257 => 65 | 128 => 55 | 129 => 56 | 294 => 67 | 295 => 68 | 296 => 69 | 297 => 70 | 298 => 71 | 299 => 72 | 216 => 73 | 300 => 74 | 301 => 75 | 328 => 76 | 329 => 61 | 330 => 62 | 331 => 77 | 332 => 78 | 215 => 79 | 343 => 80 | n => n, fun | 28 => 83 | 3 => 3 | 46 => 30 | 0 => 0 | 51 => 97 | 53 => 87 | 4 => 4 | 183 => 91 | 182 => 90 | 131 => 77 | 5 => 5 | 9 => 9 | 218 => 102 | 222 => 106 | 228 => 109 | 229 => 110 | n => n, fun | n => n⟩
theorem Try.sortInts : Go.Proofs.Lays.n189 Try.prog Try.sortInts_ren := {
  mixed := by kernel_rfl,
  f125 := Try.func41.trans (congrArg some (by kernel_rfl)),
  f128 := Try.func55.trans (congrArg some (by kernel_rfl)),
  f129 := Try.func56.trans (congrArg some (by kernel_rfl)),
  f189 := Try.func59.trans (congrArg some (by kernel_rfl)),
  f215 := Try.func79.trans (congrArg some (by kernel_rfl)),
  f216 := Try.func73.trans (congrArg some (by kernel_rfl)),
  f257 := Try.func65.trans (congrArg some (by kernel_rfl)),
  f294 := Try.func67.trans (congrArg some (by kernel_rfl)),
  f295 := Try.func68.trans (congrArg some (by kernel_rfl)),
  f296 := Try.func69.trans (congrArg some (by kernel_rfl)),
  f297 := Try.func70.trans (congrArg some (by kernel_rfl)),
  f298 := Try.func71.trans (congrArg some (by kernel_rfl)),
  f299 := Try.func72.trans (congrArg some (by kernel_rfl)),
  f300 := Try.func74.trans (congrArg some (by kernel_rfl)),
  f301 := Try.func75.trans (congrArg some (by kernel_rfl)),
  f328 := Try.func76.trans (congrArg some (by kernel_rfl)),
  f329 := Try.func61.trans (congrArg some (by kernel_rfl)),
  f330 := Try.func62.trans (congrArg some (by kernel_rfl)),
  f331 := Try.func77.trans (congrArg some (by kernel_rfl)),
  f332 := Try.func78.trans (congrArg some (by kernel_rfl)),
  f343 := Try.func80.trans (congrArg some (by kernel_rfl)),
  t0 := Try.underlying0,
  a0 := Try.isAgg0,
  z0 := Try.sizeOf0,
  v0 := Try.zeroValue0,
  t3 := Try.underlying3,
  a3 := Try.isAgg3,
  z3 := Try.sizeOf3,
  v3 := Try.zeroValue3,
  t4 := Try.underlying4,
  a4 := Try.isAgg4,
  z4 := Try.sizeOf4,
  v4 := Try.zeroValue4,
  t5 := Try.underlying5,
  a5 := Try.isAgg5,
  z5 := Try.sizeOf5,
  v5 := Try.zeroValue5,
  t9 := Try.underlying9,
  a9 := Try.isAgg9,
  z9 := Try.sizeOf9,
  v9 := Try.zeroValue9,
  t28 := Try.underlying83,
  a28 := Try.isAgg83,
  z28 := Try.sizeOf83,
  v28 := Try.zeroValue83,
  t46 := Try.underlying30,
  a46 := Try.isAgg30,
  z46 := Try.sizeOf30,
  v46 := Try.zeroValue30,
  t51 := Try.underlying97,
  a51 := Try.isAgg97,
  z51 := Try.sizeOf97,
  v51 := Try.zeroValue97,
  t53 := Try.underlying87,
  a53 := Try.isAgg87,
  z53 := Try.sizeOf87,
  v53 := Try.zeroValue87,
  t131 := Try.underlying77,
  a131 := Try.isAgg77,
  z131 := Try.sizeOf77,
  v131 := Try.zeroValue77,
  t182 := Try.underlying90,
  a182 := Try.isAgg90,
  z182 := Try.sizeOf90,
  v182 := Try.zeroValue90,
  t183 := Try.underlying91,
  a183 := Try.isAgg91,
  z183 := Try.sizeOf91,
  v183 := Try.zeroValue91,
  t218 := Try.underlying102,
  a218 := Try.isAgg102,
  z218 := Try.sizeOf102,
  v218 := Try.zeroValue102,
  t222 := Try.underlying106,
  a222 := Try.isAgg106,
  z222 := Try.sizeOf106,
  v222 := Try.zeroValue106,
  t228 := Try.underlying109,
  a228 := Try.isAgg109,
  z228 := Try.sizeOf109,
  v228 := Try.zeroValue109,
  t229 := Try.underlying110,
  a229 := Try.isAgg110,
  z229 := Try.sizeOf110,
  v229 := Try.zeroValue110
}

set_option maxRecDepth 100000 in
theorem sort_ints (g cap base : Nat) (l : List Int) (hlen : l.length ≤ 100000) (w : World) (hrow : w.ownsRow base 3 1 (.slice (some ⟨g, 0, none⟩) l.length cap) l.length (intCells l)) :
    Calls Try.prog 59 #[.slice (some ⟨g, 0, none⟩) l.length cap] w fun e w' =>
      e = .returned (.tuple #[]) ∧ IntsAt w' g 0 (l.mergeSort fun x y => decide (x ≤ y)) ∧ w.grownBy w' (some g) := by
  rcases hrow.2 with ⟨hv, _⟩ | ⟨g', cap', cur, hv, hb, hg, hn, hc, hs, hx⟩
  · cases hv
  injection hv with e1 e2 e3
  injection e1 with e1
  injection e1 with e1
  subst e1 e3
  have hH : Holds (Value.int .i64) w g 0 l.toArray := by
    intro j hj
    have hj' : j < l.length := hj
    have k1 := hrow.cellAt j (by omega)
    rw [Nat.zero_add, k1]
    refine ⟨?_, ?_⟩
    · unfold intCells
      rw [List.getElem?_map, List.getElem?_eq_getElem hj', getElem!_pos l.toArray j hj]
      rfl
    · simp [World.frozen?, hg]
  have hblk : g < w.heap.size := (Array.getElem?_eq_some_iff.1 hg).1
  have hcon := Any.slices_Sort_int Try.sortInts g 0 cap l w hH hblk (by omega)
  change Calls Try.prog 59 _ _ _ at hcon
  refine hcon.mono ?_
  rintro e w' ⟨rfl, q, os, rfl⟩
  refine ⟨rfl, ?_, grown_sortWorld (Value.int .i64) w g 0 q _ os⟩
  have hl : (l.mergeSort fun x y => decide (x ≤ y)).length = l.length := List.length_mergeSort _
  have hS := holds_sortWorld (Value.int .i64) w g 0 q l.toArray (l.mergeSort fun x y => decide (x ≤ y)).toArray os hblk hH hl
  generalize (l.mergeSort fun x y => decide (x ≤ y)) = M at *
  intro i hi
  have hj : i < M.toArray.size := hi
  have hs1 := (hS i hj).1
  rw [getElem!_pos M.toArray i hj] at hs1
  exact hs1
theorem sort_ints_none (p : Option Addr) (cap : Nat) (w : World) :
    Calls Try.prog 59 #[.slice p 0 cap] w fun e w' => e = .returned (.tuple #[]) ∧ w' = w :=
  Any.slices_Sort_int_none Try.sortInts p cap w
end Go.Proofs.Ytcnjklbmlplehaa
