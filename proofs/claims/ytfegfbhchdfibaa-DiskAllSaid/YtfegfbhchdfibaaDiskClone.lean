/- What maps.Clone makes of a map of files. The laying was printed by a program. -/
import Derived.Test.YtfegfbhchdfibaaDiskMem
import Derived.Shelf.SlMaps.Clone
namespace Go.Proofs.Ytfegfbhchdfibaa
open Go.Shelf Go.RowKit
def Try.cloneF_ren : Go.Shelf.Ren := ⟨fun | 5 => 27 | 7 => 46 | n => n, fun | 23 => 53 | 25 => 9 | 3 => 59 | 4 => 4 | 20 => 20 | n => n, fun | n => n⟩
theorem Try.cloneF : Go.Proofs.SlLaysW.n5 Try.prog Try.cloneF_ren := {
  mixed := by kernel_rfl,
  f5 := ⟨Try.f27.name, by decide, Try.func27.trans (congrArg some (by kernel_rfl))⟩,
  f7 := Try.func46.trans (congrArg some (by kernel_rfl)),
  t4 := Try.underlying4,
  a4 := Try.isAgg4,
  z4 := Try.sizeOf4,
  v4 := Try.zeroValue4,
  t20 := Try.underlying20,
  a20 := Try.isAgg20,
  z20 := Try.sizeOf20,
  v20 := Try.zeroValue20,
  t23 := Try.underlying53,
  a23 := Try.isAgg53,
  z23 := Try.sizeOf53,
  v23 := Try.zeroValue53
}

theorem files_clone (b : Nat) (m : DK.Files) (w : World) (h : FilesAt w b m) :
    Calls Try.prog 27 #[.map (some b)] w fun e w' => e = .returned (.map (some w.heap.size)) ∧ FilesAt w' w.heap.size m ∧ w.heap.size < w'.heap.size ∧ Ext w w' := by
  refine (AnyW.maps_Clone_owns Try.cloneF 9 fileElem b m.length (DK.dOf m) w h).mono fun e w' ⟨he, h1, _, hb⟩ => ⟨he, h1, FilesAt.lt h1, hb⟩
end Go.Proofs.Ytfegfbhchdfibaa
