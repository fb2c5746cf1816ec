/- The walk of GraphShapes. -/
import Derived.Test.YtcckdogcjjimoaaGraphAwake
import Derived.Test.YtcckdogcjjimoaaGraphEdges
namespace Go.Proofs.Ytcckdogcjjimoaa
open Go.RowKit

theorem nil_peers (w : World) : Calls Try.prog 17 #[.pointer none] w fun e w' => e = .returned (.int .i64 0) ∧ w' = w := by
  go_enter Try.func17, Try.ntmps17
  go_wp2
  go_ret
  exact ⟨rfl, rfl⟩
theorem nil_edges (w : World) : Calls Try.prog 19 #[.pointer none] w fun e w' => e = .returned (.slice none 0 0) ∧ w' = w := by
  go_enter Try.func19, Try.ntmps19
  go_wp2
  go_ret
  exact ⟨rfl, rfl⟩
theorem nil_near (p : Int) (w : World) : Calls Try.prog 16 #[.pointer none, .int .i64 p] w fun e w' => e = .returned (.slice none 0 0) ∧ w' = w := by
  go_enter Try.func16, Try.ntmps16
  go_wp2
  go_ret
  exact ⟨rfl, rfl⟩
theorem nil_far (p q : Int) (w : World) : Calls Try.prog 12 #[.pointer none, .int .i64 p, .int .i64 q] w fun e w' => e = .returned (.int .i64 (-1)) ∧ w' = w := by
  go_enter Try.func12, Try.ntmps12
  go_wp2_with fail
  refine (graph_there_nil p w).mono ?_
  rintro e w1 ⟨rfl, rfl⟩
  go_wp2
  go_ret
  exact ⟨rfl, rfl⟩
theorem nil_whole (w : World) : Calls Try.prog 15 #[.pointer none] w fun e w' => e = .returned (.bool false) ∧ w' = w := by
  go_enter Try.func15, Try.ntmps15
  go_wp2
  go_ret
  exact ⟨rfl, rfl⟩
theorem nil_wide (w : World) : Calls Try.prog 14 #[.pointer none] w fun e w' => e = .returned (.int .i64 0) ∧ w' = w := by
  go_enter Try.func14, Try.ntmps14
  go_wp2_with fail
  refine (nil_peers w).mono ?_
  rintro e w1 ⟨rfl, rfl⟩
  go_wp2
  refine wp_loop_rounds 1 ?_
  rw [rounds_succ]
  go_wp2
  go_ret
  exact ⟨rfl, rfl⟩

set_option maxRecDepth 100000 in
set_option maxHeartbeats 2000000 in
theorem law_shapes_none (n : Int) (w : World) (hn : ¬ (1 ≤ n ∧ n ≤ 64)) :
    Calls Try.prog 6 #[.int .i64 n] w fun e w' => e = .returned (.bool true) ∧ Ext w w' := by
  have hor : n < 1 ∨ (1 ≤ n ∧ 64 < n) := by omega
  have HL := Lib.hid (fun W => graph_line_none n hn W)
  have HR := Lib.hid (fun W => graph_ring_none n hn W)
  have HS := Lib.hid (fun W => graph_star_none n hn W)
  have HOR := Lib.hid hor
  clear hn hor
  go_enter Try.func6, Try.ntmps6
  go_wp2_with fail
  refine (HL.out _).mono ?_
  rintro e w1 ⟨rfl, g1⟩
  go_wp2_with fail
  refine (HR.out _).mono ?_
  rintro e w2 ⟨rfl, g2⟩
  go_wp2_with fail
  refine (HS.out _).mono ?_
  rintro e w3 ⟨rfl, g3⟩
  have HX := Lib.hid (g1.trans (g2.trans g3))
  clear g1 g2 g3 HL HR HS
  rcases HOR.out with h | ⟨h, h2⟩
  all_goals
    clear HOR
    go_wp2_with fail
    refine (nil_peers w3).mono ?_
    rintro e w4 ⟨rfl, rfl⟩
    go_wp2_with fail
    refine (nil_edges _).mono ?_
    rintro e w4 ⟨rfl, rfl⟩
    go_wp2_with fail
    refine (nil_near 0 _).mono ?_
    rintro e w4 ⟨rfl, rfl⟩
    go_wp2_with fail
    refine (nil_far 0 0 _).mono ?_
    rintro e w4 ⟨rfl, rfl⟩
    go_wp2_with fail
    refine (nil_whole _).mono ?_
    rintro e w4 ⟨rfl, rfl⟩
    go_wp2_with fail
    refine (nil_wide _).mono ?_
    rintro e w4 ⟨rfl, rfl⟩
    go_wp2_with fail
    refine (law_awake _).mono ?_
    rintro e w5 ⟨rfl, g5⟩
    go_wp2
    go_ret
    exact ⟨rfl, HX.out.trans g5⟩

theorem run_min2 {P : Program} (ts : Array TypeId) (t : TypeId) (x y : Int) (w : World) : (Builtin.min_ ts t #[.int .i64 x, .int .i64 y]).run P w = .ok (.int .i64 (min x y)) w := by
  simp only [Builtin.min_, List.foldlM_cons, List.foldlM_nil, Builtin.min2, Sem.run_bind, Sem.run_pure, Result.andThen]
  rw [show (if y < x then y else x) = min x y by split <;> omega]

/-- What is known of a drawn graph: its width, its whole, its edges. -/
structure Shape (w : World) (v : Value) (n : Nat) (k : Nat) (W : Int) : Prop where
  pt : ∃ B, v = .pointer (some ⟨B, 0, none⟩)
  edges : ∀ w', Ext w w' → Calls Try.prog 19 #[v] w' fun e w'' => ∃ p c, e = .returned (.slice p k c) ∧ Ext w' w''
  whole : ∀ w', Ext w w' → Calls Try.prog 15 #[v] w' fun e w'' => e = .returned (.bool true) ∧ Ext w' w''
  wide : ∀ w', Ext w w' → Calls Try.prog 14 #[v] w' fun e w'' => e = .returned (.int .i64 W) ∧ Ext w' w''
theorem shape_of {w : World} {v : Value} {n k : Nat} {W : Int} {adj : Nat → Nat → Bool} (h : GraphV w v n adj) (hk : (GR.links n adj).length = k) (hw : GR.whole n adj = true) (hd : GR.wide n adj = W) : Shape w v n k W := by
  obtain ⟨B, p, c, rfl, hG⟩ := h
  refine ⟨⟨B, rfl⟩, fun w' hx => ?_, fun w' hx => ?_, fun w' hx => ?_⟩
  · refine (graph_edges B n c adj p w' (hG.ext hx)).mono ?_
    rintro e w'' ⟨v, rfl, hR⟩
    obtain ⟨p2, c2, rfl⟩ := row_slice hR.row
    rw [GR.toEd_length, hk]
    exact ⟨p2, c2, rfl, hR.ext⟩
  · have := graph_whole B n c adj p w' (hG.ext hx)
    rw [hw] at this
    exact this
  · have := graph_wide B n c adj p w' (hG.ext hx)
    rw [hd] at this
    exact this
theorem Shape.ext {w w' : World} {v : Value} {n k : Nat} {W : Int} (h : Shape w v n k W) (hx : Ext w w') : Shape w' v n k W :=
  ⟨h.pt, fun w2 h2 => h.edges w2 (hx.trans h2), fun w2 h2 => h.whole w2 (hx.trans h2), fun w2 h2 => h.wide w2 (hx.trans h2)⟩

set_option maxRecDepth 100000 in
set_option maxHeartbeats 2000000 in
theorem law_shapes_some (n : Nat) (w : World) (h1 : 1 ≤ n) (h2 : n ≤ 64) :
    Calls Try.prog 6 #[.int .i64 n] w fun e w' => e = .returned (.bool true) ∧ Ext w w' := by
  obtain ⟨k, hk⟩ : ∃ k, n - 1 = k := ⟨_, rfl⟩
  obtain ⟨r, hr⟩ : ∃ r, (if n < 3 then n - 1 else n) = r := ⟨_, rfl⟩
  obtain ⟨W, hW⟩ : ∃ W : Int, (if n < 3 then (n : Int) - 1 else (n / 2 : Nat)) = W := ⟨_, rfl⟩
  have hL : ∀ W', Calls Try.prog 23 #[.int .i64 n] W' fun e w' => ∃ v, e = .returned v ∧ Shape w' v n k ((n : Int) - 1) ∧ Ext W' w' := fun W' =>
    (graph_line n h1 h2 W').mono fun e w' ⟨v, he, hg, hx⟩ => ⟨v, he, shape_of hg (by rw [GR.line_links h1, hk]) ((GR.line_dist n).whole h1) (GR.line_wide h1), hx⟩
  have hS : ∀ W', Calls Try.prog 25 #[.int .i64 n] W' fun e w' => ∃ v, e = .returned v ∧ Shape w' v n k (min ((n : Int) - 1) 2) ∧ Ext W' w' := fun W' =>
    (graph_star n h1 h2 W').mono fun e w' ⟨v, he, hg, hx⟩ => ⟨v, he, shape_of hg (by rw [GR.star_links h1, hk]) ((GR.star_dist n).whole h1) (GR.star_wide h1), hx⟩
  have hR : ∀ W', Calls Try.prog 24 #[.int .i64 n] W' fun e w' => ∃ v, e = .returned v ∧ Shape w' v n r W ∧ Ext W' w' := fun W' =>
    (graph_ring n h1 h2 W').mono fun e w' ⟨v, he, hg, hx⟩ => ⟨v, he, by
      by_cases h3 : n < 3
      · rw [if_pos h3] at hr hW
        rw [GR.ring_small (by omega)] at hg
        exact shape_of hg (by rw [GR.line_links h1, hr]) ((GR.line_dist n).whole h1) (by rw [GR.line_wide h1, hW])
      · rw [if_neg h3] at hr hW
        exact shape_of hg (by rw [GR.ring_links (by omega), hr]) ((GR.ring_dist (by omega)).whole h1) (by rw [GR.ring_wide (by omega), hW]), hx⟩
  have HL := Lib.hid hL
  have HS := Lib.hid hS
  have HR := Lib.hid hR
  have hki : (k : Int) = (n : Int) - 1 := by omega
  have HRW : Hid ((n < 3 ∧ (r : Int) = (n : Int) - 1 ∧ W = (n : Int) - 1) ∨ (¬ n < 3 ∧ (r : Int) = n ∧ W = (n : Int) / 2)) := Lib.hid (by
    by_cases h3 : n < 3
    · rw [if_pos h3] at hr hW
      exact .inl ⟨h3, by omega, by omega⟩
    · rw [if_neg h3] at hr hW
      exact .inr ⟨h3, by omega, by omega⟩)
  have hn1 : 1 ≤ (n : Int) := by omega
  have hn2 : (n : Int) ≤ 64 := by omega
  clear hL hS hR hr hW hk
  go_enter Try.func6, Try.ntmps6
  go_wp2_with fail
  refine (HL.out _).mono ?_
  rintro e w1 ⟨vl, rfl, SL, g1⟩
  go_wp2_with fail
  refine (HR.out _).mono ?_
  rintro e w2 ⟨vr, rfl, SR, g2⟩
  go_wp2_with fail
  refine (HS.out _).mono ?_
  rintro e w3 ⟨vs, rfl, SS, g3⟩
  have HX := Lib.hid (g1.trans (g2.trans g3))
  have SL3 := Lib.hid (SL.ext (g2.trans g3))
  have SR3 := Lib.hid (SR.ext g3)
  have SS3 := Lib.hid SS
  clear g1 g2 g3 HL HR HS SL SR SS
  obtain ⟨B1, rfl⟩ := SL3.out.pt
  obtain ⟨B2, rfl⟩ := SR3.out.pt
  obtain ⟨B3, rfl⟩ := SS3.out.pt
  rcases HRW.out with ⟨h3, hr, hW⟩ | ⟨h3, hr, hW⟩
  · have h3i : (n : Int) < 3 := by omega
    have t1 : ((k : Int) == (n : Int) - 1) = true := by rw [beq_iff_eq]; omega
    have t3 : (((n : Int) - 1) == ((n : Int) - 1)) = true := beq_self_eq_true _
    have t2 : ((r : Int) == (n : Int) - 1) = true := by rw [beq_iff_eq]; omega
    have HM := Lib.hid (show min ((n : Int) - 1) 2 = (n : Int) - 1 by omega)
    rw [HM.out] at SS3
    have hmin : ∀ w, (Builtin.min_ #[3, 3] 3 #[.int .i64 ((n : Int) - 1), .int .i64 2]).run Try.prog w = .ok (.int .i64 ((n : Int) - 1)) w := fun w => by rw [run_min2 (P := Try.prog), HM.out]
    subst hW
    clear HRW
    go_wp2_with fail
    refine (SL3.out.edges _ (Ext.refl w3)).mono ?_
    rintro e w4 ⟨p4, c4, rfl, x4⟩
    go_wp2_with fail
    refine (SS3.out.edges _ x4).mono ?_
    rintro e w5 ⟨p5, c5, rfl, g5⟩
    have x5 := x4.trans g5
    clear g5
    go_wp2_with fail
    refine (SR3.out.edges _ x5).mono ?_
    rintro e w6 ⟨p6, c6, rfl, g6⟩
    have x6 := x5.trans g6
    clear g6
    go_wp2_with fail
    refine (SL3.out.whole _ x6).mono ?_
    rintro e w7 ⟨rfl, g7⟩
    have x7 := x6.trans g7
    clear g7
    go_wp2_with fail
    refine (SR3.out.whole _ x7).mono ?_
    rintro e w8 ⟨rfl, g8⟩
    have x8 := x7.trans g8
    clear g8
    go_wp2_with fail
    refine (SS3.out.whole _ x8).mono ?_
    rintro e w9 ⟨rfl, g9⟩
    have x9 := x8.trans g9
    clear g9
    go_wp2_with fail
    refine (SL3.out.wide _ x9).mono ?_
    rintro e wa ⟨rfl, ga⟩
    have xa := x9.trans ga
    clear ga
    go_wp2_with fail
    refine (SR3.out.wide _ xa).mono ?_
    rintro e wb ⟨rfl, gb⟩
    have xb := xa.trans gb
    clear gb
    go_wp2_with fail
    refine (SS3.out.wide _ xb).mono ?_
    rintro e wc ⟨rfl, gc⟩
    have xc := Lib.hid (xb.trans gc)
    clear gc
    clear x4 x5 x6 x7 x8 x9 xa xb
    go_wp2_with fail
    refine (law_awake _).mono ?_
    rintro e wd ⟨rfl, gd⟩
    go_wp2
    go_ret
    exact ⟨rfl, HX.out.trans (xc.out.trans gd)⟩
  · have h3i : ¬ (n : Int) < 3 := by omega
    have t1 : ((k : Int) == (n : Int) - 1) = true := by rw [beq_iff_eq]; omega
    have t3 : (((n : Int) - 1) == ((n : Int) - 1)) = true := beq_self_eq_true _
    have t2 : ((r : Int) == (n : Int)) = true := by rw [beq_iff_eq]; omega
    have t4 : ((n : Int) / 2 == (n : Int) / 2) = true := beq_self_eq_true _
    have HM := Lib.hid (show min ((n : Int) - 1) 2 = 2 by omega)
    rw [HM.out] at SS3
    have hmin : ∀ w, (Builtin.min_ #[3, 3] 3 #[.int .i64 ((n : Int) - 1), .int .i64 2]).run Try.prog w = .ok (.int .i64 (2)) w := fun w => by rw [run_min2 (P := Try.prog), HM.out]
    subst hW
    clear HRW
    go_wp2_with fail
    refine (SL3.out.edges _ (Ext.refl w3)).mono ?_
    rintro e w4 ⟨p4, c4, rfl, x4⟩
    go_wp2_with fail
    refine (SS3.out.edges _ x4).mono ?_
    rintro e w5 ⟨p5, c5, rfl, g5⟩
    have x5 := x4.trans g5
    clear g5
    go_wp2_with fail
    refine (SR3.out.edges _ x5).mono ?_
    rintro e w6 ⟨p6, c6, rfl, g6⟩
    have x6 := x5.trans g6
    clear g6
    go_wp2_with fail
    refine (SL3.out.whole _ x6).mono ?_
    rintro e w7 ⟨rfl, g7⟩
    have x7 := x6.trans g7
    clear g7
    go_wp2_with fail
    refine (SR3.out.whole _ x7).mono ?_
    rintro e w8 ⟨rfl, g8⟩
    have x8 := x7.trans g8
    clear g8
    go_wp2_with fail
    refine (SS3.out.whole _ x8).mono ?_
    rintro e w9 ⟨rfl, g9⟩
    have x9 := x8.trans g9
    clear g9
    go_wp2_with fail
    refine (SL3.out.wide _ x9).mono ?_
    rintro e wa ⟨rfl, ga⟩
    have xa := x9.trans ga
    clear ga
    go_wp2_with fail
    refine (SR3.out.wide _ xa).mono ?_
    rintro e wb ⟨rfl, gb⟩
    have xb := xa.trans gb
    clear gb
    go_wp2_with fail
    refine (SS3.out.wide _ xb).mono ?_
    rintro e wc ⟨rfl, gc⟩
    have xc := Lib.hid (xb.trans gc)
    clear gc
    clear x4 x5 x6 x7 x8 x9 xa xb
    go_wp2_with fail
    refine (law_awake _).mono ?_
    rintro e wd ⟨rfl, gd⟩
    go_wp2
    go_ret
    exact ⟨rfl, HX.out.trans (xc.out.trans gd)⟩

set_option maxRecDepth 100000 in
theorem law_shapes (n : Int) (w : World) :
    Calls Try.prog 6 #[.int .i64 n] w fun e w' => e = .returned (.bool true) ∧ Ext w w' := by
  by_cases h : 1 ≤ n ∧ n ≤ 64
  · obtain ⟨k, rfl⟩ : ∃ k : Nat, n = (k : Int) := ⟨n.toNat, by omega⟩
    exact law_shapes_some k w (by omega) (by omega)
  · exact law_shapes_none n w h
end Go.Proofs.Ytcckdogcjjimoaa
