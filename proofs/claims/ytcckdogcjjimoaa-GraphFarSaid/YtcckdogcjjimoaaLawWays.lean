/- The walk of GraphWays. -/
import Derived.Test.YtcckdogcjjimoaaGraphAwake
import Derived.Test.YtcckdogcjjimoaaRefWide
import Derived.Test.YtcckdogcjjimoaaEdsOpen
import Derived.Test.YtcckdogcjjimoaaQuietG
namespace Go.Proofs.Ytcckdogcjjimoaa
open Go.RowKit

theorem bad_none {n : Nat} {l : List GR.Ed} (hok : GR.OkE n l) : l.any (GR.badE n) = false := by
  rw [List.any_eq_false]
  intro e he
  rw [hok e he]
  exact Bool.false_ne_true

set_option maxRecDepth 100000 in
set_option maxHeartbeats 2000000 in
theorem law_ways_yes (q : Option Addr) (m c : Nat) (l : List GR.Ed) (n : Nat) (x y : Int) (w : World) (h : EdsV w (.slice q m c) l) (hm : m ≤ 30) (hn1 : 1 ≤ n) (hn2 : n ≤ 12) (hok : GR.OkE n l) (hcheck : GR.checkG (n : Int) l = 0) :
    Calls Try.prog 3 #[.int .i64 n, .slice q m c, .agg #[.int .i64 x, .int .i64 y]] w fun e w' => e = .returned (.bool true) ∧ Ext w w' := by
  have hll : l.length = m := by
    obtain ⟨_, _, e, _⟩ := h
    injection e with _ e
    exact e.symm
  have hb := bad_none hok
  have hx0 : Ext w (w.alloc (.cells #[.int .i64 x, .int .i64 y] 23)) := (Ext.refl w).alloc _
  have hT := Two.new w 23 (.int .i64 x) (.int .i64 y)
  have HC := Lib.hid (fun W (hW : Ext w W) => ref_check (.slice q m c) l n W (h.ext hW))
  rw [hcheck] at HC
  have HO := Lib.hid (fun W (hW : Ext w W) => law_own (.slice q m c) l W (h.ext hW) (by omega))
  have HN := Lib.hid (fun v W (hv : EdsV W v l) => graph_new_ok v l n W hn1 (by omega) hv (by omega) hb)
  have HW := Lib.hid (fun W (hW : Ext w W) => ref_wide (.slice q m c) l n W (h.ext hW) hn1 (by omega) hok)
  have HF := Lib.hid (fun W (hW : Ext w W) => ref_far (.slice q m c) l n x y W (h.ext hW) hn1 (by omega) hok)
  have hmi : (m : Int) ≤ 30 := by omega
  have hni : (n : Int) ≤ 12 := by omega
  have HX0 := Lib.hid hx0
  have HT := Lib.hid hT
  clear h hcheck hx0 hT hb hok
  go_enter Try.func3, Try.ntmps3
  generalize hw0 : w.alloc (.cells #[.int .i64 x, .int .i64 y] 23) = w0 at *
  go_wp2_with fail
  refine (HC.out _ HX0.out).mono ?_
  rintro e w1 ⟨rfl, g1⟩
  go_wp2_with fail
  refine (HO.out _ (HX0.out.trans g1)).mono ?_
  rintro e w2 ⟨v2, rfl, hR2⟩
  go_wp2_with fail
  refine (HN.out v2 w2 (row_eds hR2.row (by omega))).mono ?_
  rintro e w3 ⟨v3, rfl, hv3, g3⟩
  obtain ⟨B, pt, cc, rfl, hG⟩ := hv3
  have x3 := HX0.out.trans (g1.trans (hR2.ext.trans g3))
  have y3 := g1.trans (hR2.ext.trans g3)
  go_wp2_with fail
  refine (HW.out w3 x3).mono ?_
  rintro e w4 ⟨rfl, g4⟩
  go_wp2_with fail
  have x4 := x3.trans g4
  have y4 := y3.trans g4
  have hG4 := hG.ext g4
  have T4 := HT.out.ext y4
  have k1 := T4.c0
  have k2 := T4.c1
  have Q1 := Lib.hid (fun p : ExtOf w4 => graph_far B n cc _ pt x y p.to (hG4.ext p.ext))
  have Q2 := Lib.hid (fun p : ExtOf w4 => HF.out p.to (x4.trans p.ext))
  have Q3 := Lib.hid (fun p : ExtOf w4 => graph_wide B n cc _ pt p.to (hG4.ext p.ext))
  have Q4 := Lib.hid (fun p : ExtOf w4 => graph_whole B n cc _ pt p.to (hG4.ext p.ext))
  have Q5 := Lib.hid (fun p : ExtOf w4 => law_awake p.to)
  have e1 := cell_ext k1
  have e2 := cell_ext k2
  have X4 := Lib.hid x4
  clear k1 k2 T4 hG4 x3 y3 x4 y4 hG g4 g3 hR2 g1 HC HO HN HW HF HX0 HT hw0
  generalize GR.farZ n (GR.adjOf l) x y = f at *
  generalize GR.wide n (GR.adjOf l) = wd at *
  generalize GR.whole n (GR.adjOf l) = wh at *
  have t1 : (f == f) = true := beq_self_eq_true f
  have t2 : (wd == wd) = true := beq_self_eq_true wd
  have t3 : (wh == wh) = true := beq_self_eq_true wh
  refine wp_region_quiet_ext (by kernel_rfl) (by kernel_rfl) ?_
  repeat (go_big_quiet_step (first
    | (go_at_call 12; exact calls_ext (Q1.out _))
    | (go_at_call 13; exact calls_ext (Q2.out _))
    | (go_at_call 14; exact calls_ext (Q3.out _))
    | (go_at_call 15; exact calls_ext (Q4.out _))
    | (go_at_call 8; exact calls_ext (Q5.out _))))
  refine wpQuiet_nil ?_
  intro w5 g5
  go_wp2_with fail
  go_ret
  exact ⟨rfl, X4.out.trans g5⟩

set_option maxRecDepth 100000 in
theorem law_ways_no (q : Option Addr) (m c : Nat) (l : List GR.Ed) (peers x y : Int) (w : World) (h : EdsV w (.slice q m c) l) (hm : m ≤ 30) (hp : peers ≤ 12) (hbad : GR.checkG peers l ≠ 0) :
    Calls Try.prog 3 #[.int .i64 peers, .slice q m c, .agg #[.int .i64 x, .int .i64 y]] w fun e w' => e = .returned (.bool true) ∧ Ext w w' := by
  have hx0 : Ext w (w.alloc (.cells #[.int .i64 x, .int .i64 y] 23)) := (Ext.refl w).alloc _
  have HC := Lib.hid (fun W (hW : Ext w W) => ref_check (.slice q m c) l peers W (h.ext hW))
  obtain ⟨k, hk⟩ : ∃ k, GR.checkG peers l = k := ⟨_, rfl⟩
  rw [hk] at HC hbad
  have f2 : ((k : Int) != 0) = true := by rw [bne_iff_ne]; omega
  have hmi : (m : Int) ≤ 30 := by omega
  clear h hk hbad
  go_enter Try.func3, Try.ntmps3
  go_wp2_with fail
  refine (HC.out _ hx0).mono ?_
  rintro e w1 ⟨rfl, g1⟩
  have x1 := hx0.trans g1
  go_wp2_with fail
  refine (law_awake w1).mono ?_
  rintro e w10 ⟨rfl, g10⟩
  have x10 := Lib.hid (x1.trans g10)
  go_wp2
  go_ret
  exact ⟨rfl, x10.out⟩

set_option maxRecDepth 100000 in
theorem law_ways (q : Option Addr) (m c : Nat) (l : List GR.Ed) (peers : Int) (a : List Int) (w : World) (h : EdsW w q m l) (ha : a.length = 2) :
    Calls Try.prog 3 #[.int .i64 peers, .slice q m c, .agg (a.map (Value.int .i64)).toArray] w fun e w' => e = .returned (.bool true) ∧ Ext w w' := by
  obtain ⟨x, y, rfl⟩ : ∃ x y, a = [x, y] := by
    match a, ha with
    | [x, y], _ => exact ⟨x, y, rfl⟩
  show Calls Try.prog 3 #[.int .i64 peers, .slice q m c, .agg #[.int .i64 x, .int .i64 y]] w fun e w' => e = .returned (.bool true) ∧ Ext w w'
  have hx0 : Ext w (w.alloc (.cells #[.int .i64 x, .int .i64 y] 23)) := (Ext.refl w).alloc _
  by_cases hm : m ≤ 30
  · have hv : EdsV w (.slice q m c) l := h.v (by omega)
    by_cases hp : peers ≤ 12
    · by_cases hc : GR.checkG peers l = 0
      · obtain ⟨n, rfl, h1, h2, hok⟩ := GR.checkG_ok hc
        exact law_ways_yes q m c l n x y w hv hm h1 (by omega) hok hc
      · exact law_ways_no q m c l peers x y w hv hm hp hc
    · have hmi : (m : Int) ≤ 30 := by omega
      have hpi : 12 < peers := by omega
      clear h hm hv ha
      go_enter Try.func3, Try.ntmps3
      go_wp2_with fail
      refine (law_awake _).mono ?_
      rintro e w10 ⟨rfl, g10⟩
      have x10 := Lib.hid (hx0.trans g10)
      go_wp2
      go_ret
      exact ⟨rfl, x10.out⟩
  · have hmi : 30 < (m : Int) := by omega
    clear h hm ha
    go_enter Try.func3, Try.ntmps3
    go_wp2_with fail
    refine (law_awake _).mono ?_
    rintro e w10 ⟨rfl, g10⟩
    have x10 := Lib.hid (hx0.trans g10)
    go_wp2
    go_ret
    exact ⟨rfl, x10.out⟩
end Go.Proofs.Ytcckdogcjjimoaa
