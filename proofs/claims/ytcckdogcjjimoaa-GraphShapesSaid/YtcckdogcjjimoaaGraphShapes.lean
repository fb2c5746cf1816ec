/- Ring and Star. -/
import Derived.Test.YtcckdogcjjimoaaGraphLine
namespace Go.Proofs.Ytcckdogcjjimoaa
open Go.RowKit

set_option maxRecDepth 100000 in
set_option maxHeartbeats 1000000 in
theorem star_closure (p : Nat) (w : World) (_ : p < 64) :
    Calls Try.prog 43 #[.int .i64 p] w fun e w' => e = .returned (.tuple #[.agg #[.int .i64 0, .int .i64 p], .bool (decide (0 < p))]) ∧ Ext w w' := by
  have hal2 : Ext w (w.alloc (.cells #[.int .i64 0, .int .i64 p] 54)) := (Ext.refl _).alloc _
  have hT := Two.new w 54 (.int .i64 0) (.int .i64 p)
  have HT := Lib.hid hT
  clear hT
  go_enter Try.func43, Try.ntmps43
  go_wp2
  refine bodyPost_ret (results_row_tmp rfl _ _ (w.heap.size) _ _ _ _ rfl HT.out Try.underlying54 rfl (by kernel_rfl)) rfl ?_
  exact ⟨rfl, hal2⟩

set_option maxRecDepth 100000 in
set_option maxHeartbeats 1000000 in
theorem ring_closure (b p n : Nat) (w : World) (hp : p < n) (hn : n ≤ 64) (hc : w.cell? ⟨b, 0, none⟩ = some (.int .i64 n)) :
    Calls Try.prog 42 #[.int .i64 p, .pointer (some ⟨b, 0, none⟩)] w fun e w' => e = .returned (.tuple #[.agg #[.int .i64 p, .int .i64 ((p + 1) % n : Nat)], .bool (GR.isRing n p)]) ∧ Ext w w' := by
  have hmod0 : ((p : Int) + 1).tmod (n : Int) = (((p + 1) % n : Nat) : Int) := by
    rw [Int.tmod_eq_emod_of_nonneg (by omega), show (p : Int) + 1 = ((p + 1 : Nat) : Int) by omega, Int.natCast_emod]
  have hw1 : IntKind.i64.wrap ((p : Int) + 1) = (p : Int) + 1 := IntWalk.i64_in _ ⟨by omega, by omega⟩
  have hal : Ext w (w.alloc (.cells #[.int .i64 0, .int .i64 0] 54)) := (Ext.refl _).alloc _
  have c1 := hal.cell hc
  obtain ⟨q, hq⟩ : ∃ q, (p + 1) % n = q := ⟨_, rfl⟩
  rw [hq] at hmod0
  rw [hq]
  have hal2 : Ext w (w.alloc (.cells #[.int .i64 p, .int .i64 q] 54)) := (Ext.refl _).alloc _
  have c2 := hal2.cell hc
  have hT := Two.new w 54 (.int .i64 p) (.int .i64 q)
  have HT := Lib.hid hT
  have hnz : ((n : Int) == 0) = false := beq_eq_false_iff_ne.2 (by omega)
  have hwq : IntKind.i64.wrap (q : Int) = (q : Int) := IntWalk.i64_in _ ⟨by omega, by have := Nat.mod_lt (p + 1) (show 0 < n by omega); omega⟩
  unfold GR.isRing
  by_cases h2 : 2 < n
  · have f1 : decide ((n : Int) > 2) = true := decide_eq_true (by omega)
    have f2 : decide (2 < n) = true := decide_eq_true h2
    rw [f2]
    clear hT hq h2 f2
    go_enter Try.func42, Try.ntmps42
    go_wp2
    refine wp_region_noPanic ?_
    go_region
    all_goals
      refine NoPanic.normal ?_
      go_wp2
      refine bodyPost_ret (results_row_tmp rfl _ _ (w.heap.size) _ _ _ _ rfl HT.out Try.underlying54 rfl (by kernel_rfl)) rfl ?_
      exact ⟨rfl, hal2.drew⟩
  · have f1 : decide ((n : Int) > 2) = false := decide_eq_false (by omega)
    have f2 : decide (2 < n) = false := decide_eq_false h2
    rw [f2, Bool.false_or]
    by_cases h3 : p + 1 < n
    · have f3 : decide ((p : Int) + 1 < (n : Int)) = true := decide_eq_true (by omega)
      have f4 : decide (p + 1 < n) = true := decide_eq_true h3
      rw [f4]
      clear hT hq h2 f2 h3 f4
      go_enter Try.func42, Try.ntmps42
      go_wp2
      refine wp_region_noPanic ?_
      go_region
      all_goals
        refine NoPanic.normal ?_
        go_wp2
        refine bodyPost_ret (results_row_tmp rfl _ _ (w.heap.size) _ _ _ _ rfl HT.out Try.underlying54 rfl (by kernel_rfl)) rfl ?_
        exact ⟨rfl, hal2.drew⟩
    · have f3 : decide ((p : Int) + 1 < (n : Int)) = false := decide_eq_false (by omega)
      have f4 : decide (p + 1 < n) = false := decide_eq_false h3
      rw [f4]
      clear hT hq h2 f2 h3 f4
      go_enter Try.func42, Try.ntmps42
      go_wp2
      refine wp_region_noPanic ?_
      go_region
      all_goals
        refine NoPanic.normal ?_
        go_wp2
        refine bodyPost_ret (results_row_tmp rfl _ _ (w.heap.size) _ _ _ _ rfl HT.out Try.underlying54 rfl (by kernel_rfl)) rfl ?_
        exact ⟨rfl, hal2.drew⟩

set_option maxRecDepth 100000 in
set_option maxHeartbeats 1000000 in
theorem ring_closure_big (b p : Nat) (m : Int) (w : World) (hp : p < 64) (hm : 64 < m) (hc : w.cell? ⟨b, 0, none⟩ = some (.int .i64 m)) :
    Calls Try.prog 42 #[.int .i64 p, .pointer (some ⟨b, 0, none⟩)] w fun e w' => e = .returned (.tuple #[.agg #[.int .i64 p, .int .i64 (p + 1)], .bool true]) ∧ Ext w w' := by
  have hmod0 : ((p : Int) + 1).tmod m = (p : Int) + 1 := Int.tmod_eq_of_lt (by omega) (by omega)
  have hw1 : IntKind.i64.wrap ((p : Int) + 1) = (p : Int) + 1 := IntWalk.i64_in _ ⟨by omega, by omega⟩
  have hal : Ext w (w.alloc (.cells #[.int .i64 0, .int .i64 0] 54)) := (Ext.refl _).alloc _
  have c1 := hal.cell hc
  have hal2 : Ext w (w.alloc (.cells #[.int .i64 p, .int .i64 (p + 1)] 54)) := (Ext.refl _).alloc _
  have c2 := hal2.cell hc
  have hT := Two.new w 54 (.int .i64 p) (.int .i64 (p + 1))
  have HT := Lib.hid hT
  have hnz : (m == 0) = false := beq_eq_false_iff_ne.2 (by omega)
  have f1 : decide (m > 2) = true := decide_eq_true (by omega)
  clear hT
  go_enter Try.func42, Try.ntmps42
  go_wp2
  refine wp_region_noPanic ?_
  go_region
  all_goals
    refine NoPanic.normal ?_
    go_wp2
    refine bodyPost_ret (results_row_tmp rfl _ _ (w.heap.size) _ _ _ _ rfl HT.out Try.underlying54 rfl (by kernel_rfl)) rfl ?_
    exact ⟨rfl, hal2.drew⟩

theorem enters_ring : ∀ args w, (callFunc 42 args).run Try.prog w = .ok (.enter 42 args) w := enters_of Try.func42 (by kernel_rfl) rfl
theorem enters_star : ∀ args w, (callFunc 43 args).run Try.prog w = .ok (.enter 43 args) w := enters_of Try.func43 (by kernel_rfl) rfl

set_option maxRecDepth 100000 in
theorem graph_star (n : Nat) (hn1 : 1 ≤ n) (hn2 : n ≤ 64) (w : World) :
    Calls Try.prog 25 #[.int .i64 n] w fun e w' => ∃ v, e = .returned v ∧ GraphV w' v n (GR.adjOf (GR.star n)) ∧ Ext w w' := by
  have hof := graph_of n n (by omega) 43 #[] GR.edStar GR.isStar w enters_star
    (fun p W hp hW => (star_closure p W (by omega))) (fun _ => GR.star_ok n)
  have HOF := Lib.hid hof
  clear hof
  go_enter Try.func25, Try.ntmps25
  go_wp2_with fail
  refine HOF.out.mono ?_
  rintro e w1 ⟨h1, _, g1⟩
  obtain ⟨v, rfl, hv⟩ := h1 ⟨by omega, by omega⟩
  have HV := Lib.hid hv
  clear h1 hv
  go_wp2
  go_ret
  exact ⟨_, rfl, HV.out, g1⟩
set_option maxRecDepth 100000 in
theorem graph_star_none (m : Int) (hm : ¬ (1 ≤ m ∧ m ≤ 64)) (w : World) :
    Calls Try.prog 25 #[.int .i64 m] w fun e w' => e = .returned (.pointer none) ∧ Ext w w' := by
  have hof := graph_of m (max 0 (min m 64)).toNat (by omega) 43 #[] GR.edStar GR.isStar w enters_star
    (fun p W hp hW => star_closure p W (by omega)) (fun h => absurd h hm)
  have HOF := Lib.hid hof
  have HM := Lib.hid hm
  clear hof hm
  go_enter Try.func25, Try.ntmps25
  go_wp2_with fail
  refine HOF.out.mono ?_
  rintro e w1 ⟨_, h2, g1⟩
  obtain rfl := h2 HM.out
  go_wp2
  go_ret
  exact ⟨rfl, g1⟩

set_option maxRecDepth 100000 in
theorem graph_ring (n : Nat) (hn1 : 1 ≤ n) (hn2 : n ≤ 64) (w : World) :
    Calls Try.prog 24 #[.int .i64 n] w fun e w' => ∃ v, e = .returned v ∧ GraphV w' v n (GR.adjOf (GR.ring n)) ∧ Ext w w' := by
  have hal : Ext w (w.alloc (.cells #[.int .i64 n] 3)) := (Ext.refl _).alloc _
  have hof := graph_of n n (by omega) 42 #[.pointer (some ⟨w.heap.size, 0, none⟩)] (GR.edRing n) (GR.isRing n) (w.alloc (.cells #[.int .i64 n] 3)) enters_ring
    (fun p W hp hW => ring_closure w.heap.size p n W hp hn2 (hW.cell (alloc_cell w _ _ 0))) (fun _ => GR.ring_ok n)
  have HOF := Lib.hid hof
  clear hof
  go_enter Try.func24, Try.ntmps24
  go_wp2_with fail
  refine HOF.out.mono ?_
  rintro e w1 ⟨h1, _, g1⟩
  obtain ⟨v, rfl, hv⟩ := h1 ⟨by omega, by omega⟩
  have HV := Lib.hid hv
  clear h1 hv
  go_wp2
  go_ret
  exact ⟨_, rfl, HV.out, hal.trans g1⟩
set_option maxRecDepth 100000 in
theorem graph_ring_none (m : Int) (hm : ¬ (1 ≤ m ∧ m ≤ 64)) (w : World) :
    Calls Try.prog 24 #[.int .i64 m] w fun e w' => e = .returned (.pointer none) ∧ Ext w w' := by
  have hal : Ext w (w.alloc (.cells #[.int .i64 m] 3)) := (Ext.refl _).alloc _
  have hof := graph_of m (max 0 (min m 64)).toNat (by omega) 42 #[.pointer (some ⟨w.heap.size, 0, none⟩)] GR.edLine (fun _ => true) (w.alloc (.cells #[.int .i64 m] 3)) enters_ring
    (fun p W hp hW => ring_closure_big w.heap.size p m W (by omega) (by omega) (hW.cell (alloc_cell w _ _ 0))) (fun h => absurd h hm)
  have HOF := Lib.hid hof
  have HM := Lib.hid hm
  clear hof hm
  go_enter Try.func24, Try.ntmps24
  go_wp2_with fail
  refine HOF.out.mono ?_
  rintro e w1 ⟨_, h2, g1⟩
  obtain rfl := h2 HM.out
  go_wp2
  go_ret
  exact ⟨rfl, hal.trans g1⟩
end Go.Proofs.Ytcckdogcjjimoaa
