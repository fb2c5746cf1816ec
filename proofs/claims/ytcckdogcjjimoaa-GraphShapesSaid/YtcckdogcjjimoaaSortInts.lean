/- What slices.Sort makes of numbers. -/
import Derived.Test.YtcckdogcjjimoaaGraphNew
import Derived.Shelf.Sort.Plain
import Derived.Shelf.Slices.In.SortNone
namespace Go.Proofs.Ytcckdogcjjimoaa
open Go.Shelf Go.RowKit Go.Lib Go.Sort
def Try.sortInts_ren : Go.Shelf.Ren := ⟨fun | 189 => 38 | 125 => 46 | 257 => 50 | 128 => 59 | 129 => 60 | 294 => 62 | 295 => 63 | 296 => 64 | 297 => 65 | 298 => 66 | 299 => 67 | 216 => 68 | 300 => 69 | 301 => 70 | 328 => 78 | 329 => 72 | 330 => 73 | 331 => 79 | 332 => 80 | 215 => 81 | 343 => 83 | n => n, fun | 28 => 39 | 3 => 3 | 46 => 75 | 0 => 0 | 51 => 89 | 53 => 38 | 4 => 4 | 183 => 83 | 182 => 82 | 131 => 32 | 5 => 5 | 9 => 9 | 218 => 99 | 222 => 103 | 228 => 111 | 229 => 112 | n => n, fun | n => n⟩
theorem Try.sortInts : Go.Proofs.Lays.n189 Try.prog Try.sortInts_ren := {
  mixed := by kernel_rfl,
  f125 := Try.func46.trans (congrArg some (by kernel_rfl)),
  f128 := Try.func59.trans (congrArg some (by kernel_rfl)),
  f129 := Try.func60.trans (congrArg some (by kernel_rfl)),
  f189 := Try.func38.trans (congrArg some (by kernel_rfl)),
  f215 := Try.func81.trans (congrArg some (by kernel_rfl)),
  f216 := Try.func68.trans (congrArg some (by kernel_rfl)),
  f257 := Try.func50.trans (congrArg some (by kernel_rfl)),
  f294 := Try.func62.trans (congrArg some (by kernel_rfl)),
  f295 := Try.func63.trans (congrArg some (by kernel_rfl)),
  f296 := Try.func64.trans (congrArg some (by kernel_rfl)),
  f297 := Try.func65.trans (congrArg some (by kernel_rfl)),
  f298 := Try.func66.trans (congrArg some (by kernel_rfl)),
  f299 := Try.func67.trans (congrArg some (by kernel_rfl)),
  f300 := Try.func69.trans (congrArg some (by kernel_rfl)),
  f301 := Try.func70.trans (congrArg some (by kernel_rfl)),
  f328 := Try.func78.trans (congrArg some (by kernel_rfl)),
  f329 := Try.func72.trans (congrArg some (by kernel_rfl)),
  f330 := Try.func73.trans (congrArg some (by kernel_rfl)),
  f331 := Try.func79.trans (congrArg some (by kernel_rfl)),
  f332 := Try.func80.trans (congrArg some (by kernel_rfl)),
  f343 := Try.func83.trans (congrArg some (by kernel_rfl)),
  t0 := Try.underlying0,
  a0 := Try.isAgg0,
  z0 := Try.sizeOf0,
  v0 := Try.zeroValue0,
  t3 := Try.underlying3,
  a3 := Try.isAgg3,
  z3 := Try.sizeOf3,
  v3 := Try.zeroValue3,
  t4 := Try.underlying4,
  a4 := Try.isAgg4,
  z4 := Try.sizeOf4,
  v4 := Try.zeroValue4,
  t5 := Try.underlying5,
  a5 := Try.isAgg5,
  z5 := Try.sizeOf5,
  v5 := Try.zeroValue5,
  t9 := Try.underlying9,
  a9 := Try.isAgg9,
  z9 := Try.sizeOf9,
  v9 := Try.zeroValue9,
  t28 := Try.underlying39,
  a28 := Try.isAgg39,
  z28 := Try.sizeOf39,
  v28 := Try.zeroValue39,
  t46 := Try.underlying75,
  a46 := Try.isAgg75,
  z46 := Try.sizeOf75,
  v46 := Try.zeroValue75,
  t51 := Try.underlying89,
  a51 := Try.isAgg89,
  z51 := Try.sizeOf89,
  v51 := Try.zeroValue89,
  t53 := Try.underlying38,
  a53 := Try.isAgg38,
  z53 := Try.sizeOf38,
  v53 := Try.zeroValue38,
  t131 := Try.underlying32,
  a131 := Try.isAgg32,
  z131 := Try.sizeOf32,
  v131 := Try.zeroValue32,
  t182 := Try.underlying82,
  a182 := Try.isAgg82,
  z182 := Try.sizeOf82,
  v182 := Try.zeroValue82,
  t183 := Try.underlying83,
  a183 := Try.isAgg83,
  z183 := Try.sizeOf83,
  v183 := Try.zeroValue83,
  t218 := Try.underlying99,
  a218 := Try.isAgg99,
  z218 := Try.sizeOf99,
  v218 := Try.zeroValue99,
  t222 := Try.underlying103,
  a222 := Try.isAgg103,
  z222 := Try.sizeOf103,
  v222 := Try.zeroValue103,
  t228 := Try.underlying111,
  a228 := Try.isAgg111,
  z228 := Try.sizeOf111,
  v228 := Try.zeroValue111,
  t229 := Try.underlying112,
  a229 := Try.isAgg112,
  z229 := Try.sizeOf112,
  v229 := Try.zeroValue112
}

set_option maxRecDepth 100000 in
theorem sort_ints (g cap base : Nat) (l : List Int) (hlen : l.length ≤ 100000) (w : World) (hrow : w.ownsRow base 3 1 (.slice (some ⟨g, 0, none⟩) l.length cap) l.length (intCells l)) :
    Calls Try.prog 38 #[.slice (some ⟨g, 0, none⟩) l.length cap] w fun e w' =>
      e = .returned (.tuple #[]) ∧ IntsAt w' g 0 (l.mergeSort fun x y => decide (x ≤ y)) ∧ w.grownBy w' (some g) := by
  rcases hrow.2 with ⟨hv, _⟩ | ⟨g', cap', cur, hv, hb, hg, hn, hc, hs, hx⟩
  · cases hv
  injection hv with e1 e2 e3
  injection e1 with e1
  injection e1 with e1
  subst e1 e3
  have hH : Holds (Value.int .i64) w g 0 l.toArray := by
    intro j hj
    have hj' : j < l.length := hj
    have k1 := hrow.cellAt j (by omega)
    rw [Nat.zero_add, k1]
    refine ⟨?_, ?_⟩
    · unfold intCells
      rw [List.getElem?_map, List.getElem?_eq_getElem hj', getElem!_pos l.toArray j hj]
      rfl
    · simp [World.frozen?, hg]
  have hblk : g < w.heap.size := (Array.getElem?_eq_some_iff.1 hg).1
  have hcon := Any.slices_Sort_int Try.sortInts g 0 cap l w hH hblk (by omega)
  change Calls Try.prog 38 _ _ _ at hcon
  refine hcon.mono ?_
  rintro e w' ⟨rfl, q, os, rfl⟩
  refine ⟨rfl, ?_, grown_sortWorld (Value.int .i64) w g 0 q _ os⟩
  have hl : (l.mergeSort fun x y => decide (x ≤ y)).length = l.length := List.length_mergeSort _
  have hS := holds_sortWorld (Value.int .i64) w g 0 q l.toArray (l.mergeSort fun x y => decide (x ≤ y)).toArray os hblk hH hl
  generalize (l.mergeSort fun x y => decide (x ≤ y)) = M at *
  intro i hi
  have hj : i < M.toArray.size := hi
  have hs1 := (hS i hj).1
  rw [getElem!_pos M.toArray i hj] at hs1
  exact hs1
theorem sort_ints_none (p : Option Addr) (cap : Nat) (w : World) :
    Calls Try.prog 38 #[.slice p 0 cap] w fun e w' => e = .returned (.tuple #[]) ∧ w' = w :=
  Any.slices_Sort_int_none Try.sortInts p cap w
end Go.Proofs.Ytcckdogcjjimoaa
