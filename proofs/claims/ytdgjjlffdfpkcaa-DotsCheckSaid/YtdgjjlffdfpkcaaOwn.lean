/- own and its: a set, as the program has it and as the document has it. -/
import Derived.Test.YtdgjjlffdfpkcaaLawGaps
namespace Go.Proofs.Ytdgjjlffdfpkcaa
open Go.RowKit

set_option maxRecDepth 100000 in
theorem dots_own (p1 p2 : Option Addr) (n1 c1 n2 c2 : Nat) (w : World) : Calls Try.prog 10 #[.agg #[.slice p1 n1 c1, .slice p2 n2 c2]] w fun e w' => e = .returned (.agg #[.slice p1 n1 c1, .slice p2 n2 c2]) ∧ Ext w w' := by
  have hE : Ext w ((w.alloc (.cells #[.slice p1 n1 c1, .slice p2 n2 c2] 24)).alloc (.cells #[.slice p1 n1 c1, .slice p2 n2 c2] 29)) := ((Ext.refl w).alloc _).alloc _
  have hT := Two.new (w.alloc (.cells #[.slice p1 n1 c1, .slice p2 n2 c2] 24)) 29 (.slice p1 n1 c1) (.slice p2 n2 c2)
  have hw0 : (w.alloc (.cells #[.slice p1 n1 c1, .slice p2 n2 c2] 24)).heap.size = w.heap.size + 1 := World.size_alloc _ _
  rw [hw0] at hT
  have HT := Lib.hid hT
  have HE := Lib.hid hE
  clear hT hw0 hE
  go_enter Try.func10, Try.ntmps10
  go_wp2
  refine bodyPost_ret (results_cell_row rfl _ _ (w.heap.size + 1) _ _ _ _ rfl HT.out Try.underlying29 rfl (by kernel_rfl)) rfl ?_
  exact ⟨rfl, HE.out⟩
set_option maxRecDepth 100000 in
theorem dots_its (p1 p2 : Option Addr) (n1 c1 n2 c2 : Nat) (w : World) : Calls Try.prog 22 #[.agg #[.slice p1 n1 c1, .slice p2 n2 c2]] w fun e w' => e = .returned (.agg #[.slice p1 n1 c1, .slice p2 n2 c2]) ∧ Ext w w' := by
  have hE : Ext w ((w.alloc (.cells #[.slice p1 n1 c1, .slice p2 n2 c2] 29)).alloc (.cells #[.slice p1 n1 c1, .slice p2 n2 c2] 24)) := ((Ext.refl w).alloc _).alloc _
  have hT := Two.new (w.alloc (.cells #[.slice p1 n1 c1, .slice p2 n2 c2] 29)) 24 (.slice p1 n1 c1) (.slice p2 n2 c2)
  have hw0 : (w.alloc (.cells #[.slice p1 n1 c1, .slice p2 n2 c2] 29)).heap.size = w.heap.size + 1 := World.size_alloc _ _
  rw [hw0] at hT
  have HT := Lib.hid hT
  have HE := Lib.hid hE
  clear hT hw0 hE
  go_enter Try.func22, Try.ntmps22
  go_wp2
  refine bodyPost_ret (results_cell_row rfl _ _ (w.heap.size + 1) _ _ _ _ rfl HT.out Try.underlying24 rfl (by kernel_rfl)) rfl ?_
  exact ⟨rfl, HE.out⟩
end Go.Proofs.Ytdgjjlffdfpkcaa
