/- Small functions of graph: link, edge, turned, Peers, there. -/
import Derived.Test.YtcnjklbmlplehaaOwnRows
import Derived.Test.YtcnjklbmlplehaaLinks
import Derived.Test.YtcnjklbmlplehaaFloats
namespace Go.Proofs.Ytcnjklbmlplehaa
open Go.RowKit

/-- A link, as a complex number. -/
def cz (z : GR.Lk) : Value := .complex .f64 (fb z.1) (fb z.2)

theorem cz_nrm {a b x y : Int} (h : min a b = x) (k : max a b = y) (hx : 0 ≤ x) (hy : 0 ≤ y) : Value.complex .f64 (floatOfInt .f64 x) (floatOfInt .f64 y) = cz (GR.nrm (a, b)) := by
  unfold cz GR.nrm fb
  simp only
  rw [h, k, Int.toNat_of_nonneg hx, Int.toNat_of_nonneg hy]

set_option maxRecDepth 100000 in
theorem graph_link (a b : Int) (ha : 0 ≤ a ∧ a < 64) (hb : 0 ≤ b ∧ b < 64) (w : World) :
    Calls Try.prog 23 #[.agg #[.int .i64 a, .int .i64 b]] w fun e w' => e = .returned (cz (GR.nrm (a, b))) ∧ Ext w w' := by
  go_enter Try.func23, Try.ntmps23
  go_wp2
  all_goals
    go_ret
    exact ⟨congrArg Ending.returned (cz_nrm (by omega) (by omega) (by omega) (by omega)), (Ext.refl _).alloc _⟩

set_option maxRecDepth 100000 in
theorem graph_edge (z : GR.Lk) (h1 : z.1 < 64) (h2 : z.2 < 64) (w : World) :
    Calls Try.prog 57 #[cz z] w fun e w' => e = .returned (.agg #[.int .i64 z.1, .int .i64 z.2]) ∧ Ext w w' := by
  unfold cz
  have r1 := run_toInt h1
  have r2 := run_toInt h2
  go_enter Try.func57, Try.ntmps57
  go_wp2
  refine bodyPost_ret (results_cell_row rfl _ _ (w.heap.size) _ _ _ _ rfl (Two.new w 55 _ _) Try.underlying55 rfl (by kernel_rfl)) rfl ?_
  exact ⟨rfl, (Ext.refl _).alloc _⟩

set_option maxRecDepth 100000 in
theorem graph_turned (z : GR.Lk) (w : World) :
    Calls Try.prog 58 #[cz z] w fun e w' => e = .returned (cz (z.2, z.1)) ∧ Ext w w' := by
  unfold cz
  go_enter Try.func58, Try.ntmps58
  go_wp2
  go_ret
  exact ⟨rfl, Ext.refl _⟩
end Go.Proofs.Ytcnjklbmlplehaa
