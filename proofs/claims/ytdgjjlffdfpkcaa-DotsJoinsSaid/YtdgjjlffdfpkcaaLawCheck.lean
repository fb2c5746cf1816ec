/- The walk of DotsCheck. -/
import Derived.Test.YtdgjjlffdfpkcaaMany
import Derived.Test.YtdgjjlffdfpkcaaRefGaps
import Derived.Test.YtdgjjlffdfpkcaaQuietExt
namespace Go.Proofs.Ytdgjjlffdfpkcaa
open Go.RowKit

theorem ref_gaps (v : Value) (s : DS.S) (most : Int) (w : World) (h : SetV w v s) (hm : most ≤ 1000) :
    Calls Try.prog 19 #[v, .int .i64 most] w fun e w' => ∃ v', e = .returned v' ∧ DotsV w' v' (DS.gapsF s most) ∧ Ext w w' := by
  unfold DS.gapsF
  by_cases h0 : DS.check s = 0
  · rw [if_pos h0]
    exact ref_gaps_yes v s most w h (DS.check_ok.1 h0) hm
  · rw [if_neg h0]
    exact ref_gaps_no v s most w h h0

theorem many_one (p1 p2 : Option Addr) (n1 c1 n2 c2 k : Nat) (W : World) (hk : k = W.heap.size) :
    Calls Try.prog 8 #[.slice (some ⟨k, 0, none⟩) 1 1] (W.alloc (.cells #[.slice p1 n1 c1, .slice p2 n2 c2] 24)) fun e w' => e = .returned (.bool (decide (80 < n1 ∨ 60 < n2))) ∧ Ext (W.alloc (.cells #[.slice p1 n1 c1, .slice p2 n2 c2] 24)) w' := by
  subst hk
  refine (dots_many W.heap.size 0 1 1 (fun _ => p1) (fun _ => p2) (fun _ => n1) (fun _ => c1) (fun _ => n2) (fun _ => c2) _ (by omega) fun i hi => ?_).mono ?_
  · obtain rfl : i = 0 := by omega
    exact ⟨alloc_cell W _ _ 0, alloc_cell W _ _ 1⟩
  · rintro e w' ⟨rfl, g⟩
    refine ⟨?_, g⟩
    congr 2
    rw [decide_eq_decide]
    exact ⟨fun ⟨_, _, h⟩ => h, fun h => ⟨0, by omega, h⟩⟩

theorem ref_set_same_base (G : List Dot) (u v : Value) (W : World) (hu : DotsV W u G) (hv : DotsV W v G) :
    Calls Try.prog 17 #[.agg #[u, .slice none 0 0], .agg #[v, .slice none 0 0]] W fun e w' => e = .returned (.bool true) ∧ Ext W w' := by
  have := ref_set_same (.agg #[u, .slice none 0 0]) (.agg #[v, .slice none 0 0]) ⟨G, []⟩ ⟨G, []⟩ W ⟨_, _, rfl, hu, dotsV_nil _⟩ ⟨_, _, rfl, hv, dotsV_nil _⟩
  rw [decide_eq_true rfl] at this
  exact this

set_option maxRecDepth 100000 in
set_option maxHeartbeats 4000000 in
theorem law_check_few (p1 p2 : Option Addr) (n1 c1 n2 c2 : Nat) (s : DS.S) (d : Dot) (most : Int) (w : World) (h : SetV w (.agg #[.slice p1 n1 c1, .slice p2 n2 c2]) s) (hn1 : n1 ≤ 80) (hn2 : n2 ≤ 60) (hm : most ≤ 200) :
    Calls Try.prog 3 #[.agg #[.slice p1 n1 c1, .slice p2 n2 c2], .agg #[.int .i64 d.1, .int .i64 d.2], .int .i64 most] w fun e w' => e = .returned (.bool true) ∧ Ext w w' := by
  have HV := Lib.hid h
  have hex : s.extra.length ≤ 60 := by
    obtain ⟨vb, ve, e, hb, he⟩ := h
    obtain ⟨p, c, e2, _⟩ := he
    subst e2
    injection e with e
    injection e with e
    simp at e
    omega
  have hA := Two.new w 24 (.slice p1 n1 c1) (.slice p2 n2 c2)
  have hB := Two.new (w.alloc (.cells #[.slice p1 n1 c1, .slice p2 n2 c2] 24)) 26 (.int .i64 d.1) (.int .i64 d.2)
  have hw0 : (w.alloc (.cells #[.slice p1 n1 c1, .slice p2 n2 c2] 24)).heap.size = w.heap.size + 1 := World.size_alloc _ _
  rw [hw0] at hB
  have hA2 := hA.ext ((Ext.refl _).alloc (.cells #[.int .i64 d.1, .int .i64 d.2] 26))
  have hE := ((Ext.refl w).alloc (.cells #[.slice p1 n1 c1, .slice p2 n2 c2] 24)).alloc (.cells #[.int .i64 d.1, .int .i64 d.2] 26)
  clear h hA hw0
  go_enter Try.func3, Try.ntmps3
  go_wp2_with fail
  have hmany := many_one p1 p2 n1 c1 n2 c2 (w.heap.size + 1 + 1) ((w.alloc (.cells #[.slice p1 n1 c1, .slice p2 n2 c2] 24)).alloc (.cells #[.int .i64 d.1, .int .i64 d.2] 26)) (by rw [World.size_alloc, World.size_alloc])
  rw [decide_eq_false (by omega)] at hmany
  refine hmany.mono ?_
  rintro e w1 ⟨rfl, g1⟩
  clear hmany
  have A1 := (hA2.ext ((Ext.refl _).alloc _)).ext g1
  have B1 := (hB.ext ((Ext.refl _).alloc _)).ext g1
  have E1 := (hE.alloc _).trans g1
  clear hA2 hB hE g1
  have k1 := A1.c0
  have k2 := A1.c1
  go_wp2_with fail
  refine (dots_own _ _ _ _ _ _ _).mono ?_
  rintro e w2 ⟨rfl, g2⟩
  have A2 := (A1.ext g2).ext ((Ext.refl _).alloc (.cells #[.slice p1 n1 c1, .slice p2 n2 c2] 29))
  have B2 := (B1.ext g2).ext ((Ext.refl _).alloc (.cells #[.slice p1 n1 c1, .slice p2 n2 c2] 29))
  have C2 := Two.new w2 29 (.slice p1 n1 c1) (.slice p2 n2 c2)
  have E2 := (E1.trans g2).alloc (.cells #[.slice p1 n1 c1, .slice p2 n2 c2] 29)
  go_wp2_with fail
  generalize hw2 : w2.alloc (.cells #[.slice p1 n1 c1, .slice p2 n2 c2] 29) = w3 at *
  have V3 := HV.out.ext E2
  have e1 := cell_ext A2.c0
  have e2 := cell_ext A2.c1
  have e3 := cell_ext B2.c0
  have e4 := cell_ext B2.c1
  have e5 := cell_ext C2.c0
  have e6 := cell_ext C2.c1
  have q1 := fun (p : ExtOf w3) => set_check _ s p.to (V3.ext p.ext)
  have q2 := fun (p : ExtOf w3) => ref_set_check _ s p.to (V3.ext p.ext)
  have q3 := fun (p : ExtOf w3) => set_has _ s d p.to (V3.ext p.ext)
  have q4 := fun (p : ExtOf w3) => ref_set_has _ s d p.to (V3.ext p.ext)
  have q5 := fun (p : ExtOf w3) => set_len _ s p.to (V3.ext p.ext) (by omega)
  have q6 := fun (p : ExtOf w3) => ref_set_len _ s p.to (V3.ext p.ext) (by omega)
  unfold dotV at q3 q4
  obtain ⟨c, hc⟩ : ∃ c : Int, ((DS.check s : Nat) : Int) = c := ⟨_, rfl⟩
  rw [hc] at q1 q2
  generalize DS.has s d = b at *
  generalize DS.len s = z at *
  have Q1 := Lib.hid q1
  have Q2 := Lib.hid q2
  have Q3 := Lib.hid q3
  have Q4 := Lib.hid q4
  have Q5 := Lib.hid q5
  have Q6 := Lib.hid q6
  have HA2 := Lib.hid A2
  have HB2 := Lib.hid B2
  have HC2 := Lib.hid C2
  clear q1 q2 q3 q4 q5 q6 hc A1 B1 E1 k1 k2 A2 B2 C2 g2
  have t1 : (c != c) = false := bne_self_eq_false c
  have t2 : (b != b) = false := bne_self_eq_false b
  have t3 : (z != z) = false := bne_self_eq_false z
  refine wp_region_quiet_ext (by kernel_rfl) (by kernel_rfl) ?_
  repeat (go_big_quiet_step (first
    | (go_at_call 11; exact calls_ext (Q1.out _))
    | (go_at_call 12; exact calls_ext (Q2.out _))
    | (go_at_call 13; exact calls_ext (Q3.out _))
    | (go_at_call 14; exact calls_ext (Q4.out _))
    | (go_at_call 15; exact calls_ext (Q5.out _))
    | (go_at_call 16; exact calls_ext (Q6.out _))))
  refine wpQuiet_nil ?_
  intro w4 g4
  go_wp2_with fail
  have A4 := HA2.out.ext g4
  have C4 := HC2.out.ext g4
  have E4 := Lib.hid (E2.trans g4)
  have V4 := fun W (hW : Ext w4 W) => V3.ext (g4.trans hW)
  have hg1 := fun W (hW : Ext w4 W) => set_gaps _ s most W (V4 W hW) (by omega)
  have hg2 := fun W (hW : Ext w4 W) => ref_gaps _ s most W (V4 W hW) (by omega)
  generalize DS.gapsF s most = G at *
  have HG1 := Lib.hid hg1
  have HG2 := Lib.hid hg2
  have HA4 := Lib.hid A4
  have HC4 := Lib.hid C4
  have k1 := A4.c0
  have k2 := A4.c1
  have k3 := C4.c0
  have k4 := C4.c1
  clear hg1 hg2 A4 C4 V4 V3 HA2 HB2 HC2 Q1 Q2 Q3 Q4 Q5 Q6 e1 e2 e3 e4 e5 e6 t1 t2 t3 E2 hw2 g4
  refine wp_region_noPanic ?_
  go_region_with (first
    | (go_at_call 18; (with_reducible refine (HG1.out _ (Ext.refl _).drew).mono ?_); rintro e w5 ⟨v5, rfl, hv5, g5⟩; have DG := Lib.hid hv5; obtain ⟨pG, cG, rfl, _⟩ := hv5; have gx := (Ext.refl w4).drew.trans g5; have j1 := (HA4.out.ext gx).c0; have j2 := (HA4.out.ext gx).c1; have j3 := (HC4.out.ext gx).c0; have j4 := (HC4.out.ext gx).c1; have tok1 : True := trivial)
    | (go_at_call 19; (with_reducible refine (HG2.out _ (Ext.refl _).drew).mono ?_); rintro e w5 ⟨v5, rfl, hv5, g5⟩; have DR := Lib.hid hv5; obtain ⟨pR, cR, rfl, _⟩ := hv5; have gx := (Ext.refl w4).drew.trans g5; have j1 := (HA4.out.ext gx).c0; have j2 := (HA4.out.ext gx).c1; have j3 := (HC4.out.ext gx).c0; have j4 := (HC4.out.ext gx).c1; have tok2 : True := trivial)
    | (go_at_call 19; have _t := tok1; (with_reducible refine (HG2.out _ gx).mono ?_); rintro e w6 ⟨v6, rfl, hv6, g6⟩; have DR := hv6; obtain ⟨pR, cR, rfl, _⟩ := hv6; have D1 := Lib.hid (DG.out.ext g6); have D2 := Lib.hid DR; clear DR; have gy := gx.trans g6)
    | (go_at_call 18; have _t := tok2; (with_reducible refine (HG1.out _ gx).mono ?_); rintro e w6 ⟨v6, rfl, hv6, g6⟩; have DG := hv6; obtain ⟨pG, cG, rfl, _⟩ := hv6; have D2 := Lib.hid (DR.out.ext g6); have D1 := Lib.hid DG; clear DG; have gy := gx.trans g6)
    | (go_at_call 17; (with_reducible refine (ref_set_same_base G _ _ _ D1.out D2.out).mono ?_); rintro e w7 ⟨rfl, g7⟩; have gz := gy.trans g7)
    | (go_at_call 9; (with_reducible refine (dots_awake _).mono ?_); rintro e w8 ⟨rfl, g8⟩; have ge := gz.trans g8))
  all_goals
    refine NoPanic.normal ?_
    go_wp2_with fail
    go_ret
    exact ⟨rfl, E4.out.trans ge⟩

theorem setV_of {w : World} {p1 p2 : Option Addr} {n1 c1 n2 c2 : Nat} {l1 l2 : List Dot} (k1 : n1 ≤ c1) (m1 : c1 ≤ maxLen) (e1 : DotsW w p1 n1 l1) (k2 : n2 ≤ c2) (m2 : c2 ≤ maxLen) (e2 : DotsW w p2 n2 l2) (h1 : n1 ≤ 80) (h2 : n2 ≤ 60) :
    SetV w (.agg #[.slice p1 n1 c1, .slice p2 n2 c2]) ⟨l1, l2⟩ := by
  obtain ⟨a1, a2, a3⟩ := e1
  obtain ⟨b1, b2, b3⟩ := e2
  subst a1 b1
  exact ⟨_, _, rfl, ⟨p1, c1, rfl, k1, m1, rfl, show l1.length ≤ _ from by omega, a2, a3⟩, ⟨p2, c2, rfl, k2, m2, rfl, show l2.length ≤ _ from by omega, b2, b3⟩⟩

set_option maxRecDepth 100000 in
theorem law_check (p1 p2 : Option Addr) (n1 c1 n2 c2 : Nat) (l1 l2 : List Dot) (d : Dot) (most : Int) (w : World) (k1 : n1 ≤ c1) (m1 : c1 ≤ maxLen) (e1 : DotsW w p1 n1 l1) (k2 : n2 ≤ c2) (m2 : c2 ≤ maxLen) (e2 : DotsW w p2 n2 l2) :
    Calls Try.prog 3 #[.agg #[.slice p1 n1 c1, .slice p2 n2 c2], .agg #[.int .i64 d.1, .int .i64 d.2], .int .i64 most] w fun e w' => e = .returned (.bool true) ∧ Ext w w' := by
  have hE := ((Ext.refl w).alloc (.cells #[.slice p1 n1 c1, .slice p2 n2 c2] 24)).alloc (.cells #[.int .i64 d.1, .int .i64 d.2] 26)
  have hmany := many_one p1 p2 n1 c1 n2 c2 (w.heap.size + 1 + 1) ((w.alloc (.cells #[.slice p1 n1 c1, .slice p2 n2 c2] 24)).alloc (.cells #[.int .i64 d.1, .int .i64 d.2] 26)) (by rw [World.size_alloc, World.size_alloc])
  by_cases hg : 80 < n1 ∨ 60 < n2
  · rw [decide_eq_true hg] at hmany
    have HM := Lib.hid hmany
    clear hmany e1 e2 k1 m1 k2 m2 hg
    go_enter Try.func3, Try.ntmps3
    go_wp2_with fail
    refine HM.out.mono ?_
    rintro e w1 ⟨rfl, g1⟩
    go_wp2_with fail
    refine (dots_awake _).mono ?_
    rintro e w7 ⟨rfl, g7⟩
    go_wp2
    go_ret
    exact ⟨rfl, ((hE.alloc _).trans g1).trans g7⟩
  · by_cases hm : most ≤ 200
    · exact law_check_few p1 p2 n1 c1 n2 c2 _ d most w (setV_of k1 m1 e1 k2 m2 e2 (by omega) (by omega)) (by omega) (by omega) hm
    · rw [decide_eq_false hg] at hmany
      have HM := Lib.hid hmany
      have hmm : 200 < most := by omega
      clear hmany e1 e2 k1 m1 k2 m2 hg hm
      go_enter Try.func3, Try.ntmps3
      go_wp2_with fail
      refine HM.out.mono ?_
      rintro e w1 ⟨rfl, g1⟩
      go_wp2_with fail
      refine (dots_awake _).mono ?_
      rintro e w7 ⟨rfl, g7⟩
      go_wp2
      go_ret
      exact ⟨rfl, ((hE.alloc _).trans g1).trans g7⟩
end Go.Proofs.Ytdgjjlffdfpkcaa
