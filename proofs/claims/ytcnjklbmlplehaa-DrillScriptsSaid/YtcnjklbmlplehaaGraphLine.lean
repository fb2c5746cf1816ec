/- Line. -/
import Derived.Test.YtcnjklbmlplehaaGraphOf
namespace Go.Proofs.Ytcnjklbmlplehaa
open Go.RowKit

set_option maxRecDepth 100000 in
set_option maxHeartbeats 1000000 in
theorem line_closure (b p : Nat) (m : Int) (w : World) (hp : p < 64) (hc : w.cell? ⟨b, 0, none⟩ = some (.int .i64 m)) :
    Calls Try.prog 21 #[.int .i64 p, .pointer (some ⟨b, 0, none⟩)] w fun e w' => e = .returned (.tuple #[.agg #[.int .i64 p, .int .i64 (p + 1)], .bool (decide ((p : Int) + 1 < m))]) ∧ Ext w w' := by
  have hw1 : IntKind.i64.wrap ((p : Int) + 1) = (p : Int) + 1 := IntWalk.i64_in _ ⟨by omega, by omega⟩
  have hal : Ext w (w.alloc (.cells #[.int .i64 0, .int .i64 0] 55)) := (Ext.refl _).alloc _
  have c1 := hal.cell hc
  have hal2 : Ext w (w.alloc (.cells #[.int .i64 p, .int .i64 (p + 1)] 55)) := (Ext.refl _).alloc _
  have c2 := hal2.cell hc
  have hT := Two.new w 55 (.int .i64 p) (.int .i64 (p + 1))
  have HT := Lib.hid hT
  clear hT
  go_enter Try.func21, Try.ntmps21
  go_wp2
  refine wp_region_noPanic ?_
  go_region
  all_goals
    refine NoPanic.normal ?_
    go_wp2
    refine bodyPost_ret (results_row_tmp rfl _ _ (w.heap.size) _ _ _ _ rfl HT.out Try.underlying55 rfl (by kernel_rfl)) rfl ?_
    exact ⟨rfl, hal2.drew⟩

theorem enters_line : ∀ args w, (callFunc 21 args).run Try.prog w = .ok (.enter 21 args) w := enters_of Try.func21 (by kernel_rfl) rfl

set_option maxRecDepth 100000 in
theorem graph_line (n : Nat) (hn1 : 1 ≤ n) (hn2 : n ≤ 64) (w : World) :
    Calls Try.prog 11 #[.int .i64 n] w fun e w' => ∃ v, e = .returned v ∧ GraphV w' v n (GR.adjOf (GR.line n)) ∧ Ext w w' := by
  have hal : Ext w (w.alloc (.cells #[.int .i64 n] 3)) := (Ext.refl _).alloc _
  have hof := graph_of n n (by omega) 21 #[.pointer (some ⟨w.heap.size, 0, none⟩)] GR.edLine (GR.isLine n) (w.alloc (.cells #[.int .i64 n] 3)) enters_line
    (fun p W hp hW => (line_closure w.heap.size p n W (by omega) (hW.cell (alloc_cell w _ _ 0))).mono fun e w' ⟨he, hg⟩ => ⟨by
      rw [he]
      unfold GR.edLine GR.isLine
      rw [show decide ((p : Int) + 1 < (n : Int)) = decide (p + 1 < n) by rw [decide_eq_decide]; omega], hg⟩) (fun _ => GR.line_ok n)
  have HOF := Lib.hid hof
  clear hof
  go_enter Try.func11, Try.ntmps11
  go_wp2_with fail
  refine HOF.out.mono ?_
  rintro e w1 ⟨h1, _, g1⟩
  obtain ⟨v, rfl, hv⟩ := h1 ⟨by omega, by omega⟩
  have HV := Lib.hid hv
  clear h1 hv
  go_wp2
  go_ret
  exact ⟨_, rfl, HV.out, hal.trans g1⟩
set_option maxRecDepth 100000 in
theorem graph_line_none (m : Int) (hm : ¬ (1 ≤ m ∧ m ≤ 64)) (w : World) :
    Calls Try.prog 11 #[.int .i64 m] w fun e w' => e = .returned (.pointer none) ∧ Ext w w' := by
  have hal : Ext w (w.alloc (.cells #[.int .i64 m] 3)) := (Ext.refl _).alloc _
  have hof := graph_of m (max 0 (min m 64)).toNat (by omega) 21 #[.pointer (some ⟨w.heap.size, 0, none⟩)] GR.edLine (fun p => decide ((p : Int) + 1 < m)) (w.alloc (.cells #[.int .i64 m] 3)) enters_line
    (fun p W hp hW => line_closure w.heap.size p m W (by omega) (hW.cell (alloc_cell w _ _ 0))) (fun h => absurd h hm)
  have HOF := Lib.hid hof
  have HM := Lib.hid hm
  clear hof hm
  go_enter Try.func11, Try.ntmps11
  go_wp2_with fail
  refine HOF.out.mono ?_
  rintro e w1 ⟨_, h2, g1⟩
  obtain rfl := h2 HM.out
  go_wp2
  go_ret
  exact ⟨rfl, hal.trans g1⟩

end Go.Proofs.Ytcnjklbmlplehaa
