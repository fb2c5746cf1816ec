/- awake of the law, and the row's first steps. -/
import Derived.Test.YtcckdogcjjimoaaGraphShapes
import Derived.Test.YtcckdogcjjimoaaGraphAsk
namespace Go.Proofs.Ytcckdogcjjimoaa
open Go.RowKit

theorem star4_near : GR.ofN (GR.nearZ 4 (GR.adjOf (GR.star 4)) 0) = [1, 2, 3] := by decide +kernel

set_option maxRecDepth 100000 in
set_option maxHeartbeats 1000000 in
theorem law_awake (w : World) : Calls Try.prog 8 #[] w fun e w' => e = .returned (.bool true) ∧ Ext w w' := by
  have HR := Lib.hid (show ∀ w, Calls Try.prog 24 #[.int .i64 5] w fun e w' => ∃ v, e = .returned v ∧ GraphV w' v 5 (GR.adjOf (GR.ring 5)) ∧ Ext w w' from graph_ring 5 (by omega) (by omega))
  have HL := Lib.hid (show ∀ w, Calls Try.prog 23 #[.int .i64 5] w fun e w' => ∃ v, e = .returned v ∧ GraphV w' v 5 (GR.adjOf (GR.line 5)) ∧ Ext w w' from graph_line 5 (by omega) (by omega))
  have HS := Lib.hid (show ∀ w, Calls Try.prog 25 #[.int .i64 4] w fun e w' => ∃ v, e = .returned v ∧ GraphV w' v 4 (GR.adjOf (GR.star 4)) ∧ Ext w w' from graph_star 4 (by omega) (by omega))
  have hrw : GR.wide 5 (GR.adjOf (GR.ring 5)) = 2 := GR.ring_wide (n := 5) (by omega)
  have hlw : GR.wide 5 (GR.adjOf (GR.line 5)) = 4 := GR.line_wide (n := 5) (by omega)
  have hrl := (GR.ring_dist (n := 5) (by omega)).whole (by omega)
  have hsn := star4_near
  generalize GR.adjOf (GR.ring 5) = ar at *
  generalize GR.adjOf (GR.line 5) = al at *
  generalize GR.adjOf (GR.star 4) = aq at *
  have HRW := Lib.hid hrw
  have HLW := Lib.hid hlw
  have HRL := Lib.hid hrl
  have HSN := Lib.hid hsn
  clear hrw hlw hrl hsn
  go_enter Try.func8, Try.ntmps8
  go_wp2_with fail
  refine (HR.out _).mono ?_
  rintro e w1 ⟨vr, rfl, hvr, g1⟩
  obtain ⟨B1, p1, c1, rfl, G1⟩ := hvr
  go_wp2_with fail
  refine (HL.out _).mono ?_
  rintro e w2 ⟨vl, rfl, hvl, g2⟩
  obtain ⟨B2, p2, c2, rfl, G2⟩ := hvl
  have hw1 := graph_whole B1 5 c1 ar p1 w2 (G1.ext g2)
  rw [HRL.out] at hw1
  have H1 := Lib.hid hw1
  clear hw1
  go_wp2_with fail
  refine H1.out.mono ?_
  rintro e w3 ⟨rfl, g3⟩
  have hw1 := graph_wide B1 5 c1 ar p1 w3 (G1.ext (g2.trans g3))
  rw [HRW.out] at hw1
  have H2 := Lib.hid hw1
  clear hw1
  go_wp2_with fail
  refine H2.out.mono ?_
  rintro e w4 ⟨rfl, g4⟩
  have hw1 := graph_wide B2 5 c2 al p2 w4 (G2.ext (g3.trans g4))
  rw [HLW.out] at hw1
  have H3 := Lib.hid hw1
  clear hw1
  go_wp2_with fail
  refine H3.out.mono ?_
  rintro e w5 ⟨rfl, g5⟩
  go_wp2_with fail
  refine (HS.out _).mono ?_
  rintro e w6 ⟨vs, rfl, hvs, g6⟩
  obtain ⟨B3, p3, c3, rfl, G3⟩ := hvs
  have hw1 := graph_near B3 4 c3 aq p3 0 w6 G3
  rw [HSN.out] at hw1
  have H4 := Lib.hid hw1
  clear hw1
  go_wp2_with fail
  refine H4.out.mono ?_
  rintro e w7 ⟨v7, rfl, hv7, g7, _⟩
  obtain ⟨p7, c7, rfl, _⟩ := hv7
  go_wp2
  go_ret
  exact ⟨rfl, ((((g1.trans g2).trans g3).trans g4).trans g5).trans (g6.trans g7)⟩
end Go.Proofs.Ytcckdogcjjimoaa
