/- The document's burn. -/
import Derived.Test.YtfegfbhchdfibaaDocMem
import Derived.Deep.RegionLaw
import Derived.Laws.Rows
namespace Go.Proofs.Ytfegfbhchdfibaa
open Go.RowKit

/-- The cells of the document's disk. -/
def rdCells (room : Int) (sv nv tv : Value) (dead : Bool) (fuse : Int) : Array Value := #[.int .i64 room, sv, nv, tv, .bool dead, .int .i64 fuse]

set_option maxRecDepth 100000 in
set_option maxHeartbeats 1000000 in
theorem ref_burn (room fuse : Int) (p1 p2 p3 : Option Addr) (n1 c1 n2 c2 n3 c3 : Nat) (dead : Bool) (w : World) (hf : -1 ≤ fuse ∧ fuse ≤ 9223372036854775807) :
    Calls Try.prog 52 #[.agg (rdCells room (.slice p1 n1 c1) (.slice p2 n2 c2) (.slice p3 n3 c3) dead fuse)] w fun e w' => e = .returned (.agg (rdCells room (.slice p1 n1 c1) (.slice p2 n2 c2) (.slice p3 n3 c3) (if fuse = 0 then true else dead) (if 0 < fuse then fuse - 1 else fuse))) ∧ Ext w w' := by
  unfold rdCells
  have x1 := (Ext.refl w).alloc (.cells #[.int .i64 room, .slice p1 n1 c1, .slice p2 n2 c2, .slice p3 n3 c3, .bool dead, .int .i64 fuse] 44)
  by_cases h0 : fuse = 0
  · subst h0
    rw [if_pos rfl, if_neg (by omega)]
    go_enter Try.func52, Try.ntmps52
    go_wp2
    refine bodyPost_ret (results_cell_row rfl _ _ (w.heap.size + 1) _ _ _ _ rfl (heap_alloc2_new _ _ _) Try.underlying44 rfl (by kernel_rfl)) rfl ?_
    exact ⟨rfl, ((Ext.refl _).alloc _).alloc _⟩
  · have t0 : (fuse == 0) = false := beq_eq_false_iff_ne.2 h0
    have t1 : decide (fuse = 0) = false := decide_eq_false h0
    rw [if_neg h0]
    by_cases h1 : 0 < fuse
    · have t2 : decide (0 < fuse) = true := decide_eq_true h1
      rw [if_pos h1]
      have hw : IntKind.i64.wrap (fuse - 1) = fuse - 1 := IntWalk.i64_in _ ⟨by omega, by omega⟩
      go_enter Try.func52, Try.ntmps52
      go_wp2
      refine bodyPost_ret (results_cell_row rfl _ _ (w.heap.size + 1) _ _ _ _ rfl (heap_alloc2_new _ _ _) Try.underlying44 rfl (by kernel_rfl)) rfl ?_
      exact ⟨rfl, ((Ext.refl _).alloc _).alloc _⟩
    · have t2 : decide (0 < fuse) = false := decide_eq_false h1
      rw [if_neg h1]
      go_enter Try.func52, Try.ntmps52
      go_wp2
      refine bodyPost_ret (results_cell_row rfl _ _ (w.heap.size + 1) _ _ _ _ rfl (heap_alloc2_new _ _ _) Try.underlying44 rfl (by kernel_rfl)) rfl ?_
      exact ⟨rfl, ((Ext.refl _).alloc _).alloc _⟩
end Go.Proofs.Ytfegfbhchdfibaa
