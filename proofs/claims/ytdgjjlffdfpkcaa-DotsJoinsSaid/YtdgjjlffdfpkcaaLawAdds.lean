/- The walk of DotsAdds. -/
import Derived.Test.YtdgjjlffdfpkcaaLawCheck
import Derived.Test.YtdgjjlffdfpkcaaRefAdd
namespace Go.Proofs.Ytdgjjlffdfpkcaa
open Go.RowKit

theorem ref_add (v : Value) (s : DS.S) (d : Dot) (w : World) (h : SetV w v s) (hm1 : s.base.length ≤ 100) (hm2 : s.extra.length ≤ 150) :
    Calls Try.prog 21 #[v, dotV d] w fun e w' => ∃ v', e = .returned (.tuple #[v', .bool (DS.add s d).2]) ∧ SetV w' v' (DS.add s d).1 ∧ Ext w w' := by
  by_cases hy : DS.check s = 0 ∧ DS.Good d ∧ ¬ DS.Has s d
  · rw [DS.add_yes (DS.check_ok.1 hy.1) hy.2.1 hy.2.2]
    exact ref_add_yes v s d w h (DS.check_ok.1 hy.1) hy.2.1 hy.2.2 hm1 hm2
  · rw [DS.add_no (fun h => hy ⟨DS.check_ok.2 h.1, h.2⟩)]
    exact ref_add_no v s d w h hy

set_option maxRecDepth 100000 in
set_option maxHeartbeats 4000000 in
theorem law_adds_few (p1 p2 : Option Addr) (n1 c1 n2 c2 : Nat) (s : DS.S) (d : Dot) (w : World) (h : SetV w (.agg #[.slice p1 n1 c1, .slice p2 n2 c2]) s) (hn1 : n1 ≤ 80) (hn2 : n2 ≤ 60) :
    Calls Try.prog 4 #[.agg #[.slice p1 n1 c1, .slice p2 n2 c2], .agg #[.int .i64 d.1, .int .i64 d.2]] w fun e w' => e = .returned (.bool true) ∧ Ext w w' := by
  have HV := Lib.hid h
  have hex : s.base.length ≤ 80 ∧ s.extra.length ≤ 60 := by
    obtain ⟨vb, ve, e, hb, he⟩ := h
    obtain ⟨p, c, e2, _⟩ := he
    obtain ⟨p', c', e3, _⟩ := hb
    subst e2 e3
    injection e with e
    injection e with e
    simp at e
    omega
  have hA := Two.new w 24 (.slice p1 n1 c1) (.slice p2 n2 c2)
  have hB := Two.new (w.alloc (.cells #[.slice p1 n1 c1, .slice p2 n2 c2] 24)) 26 (.int .i64 d.1) (.int .i64 d.2)
  have hw0 : (w.alloc (.cells #[.slice p1 n1 c1, .slice p2 n2 c2] 24)).heap.size = w.heap.size + 1 := World.size_alloc _ _
  rw [hw0] at hB
  have hA2 := hA.ext ((Ext.refl _).alloc (.cells #[.int .i64 d.1, .int .i64 d.2] 26))
  have hE := ((Ext.refl w).alloc (.cells #[.slice p1 n1 c1, .slice p2 n2 c2] 24)).alloc (.cells #[.int .i64 d.1, .int .i64 d.2] 26)
  clear h hA hw0
  go_enter Try.func4, Try.ntmps4
  go_wp2_with fail
  have hmany := many_one p1 p2 n1 c1 n2 c2 (w.heap.size + 1 + 1) ((w.alloc (.cells #[.slice p1 n1 c1, .slice p2 n2 c2] 24)).alloc (.cells #[.int .i64 d.1, .int .i64 d.2] 26)) (by rw [World.size_alloc, World.size_alloc])
  rw [decide_eq_false (by omega)] at hmany
  refine hmany.mono ?_
  rintro e w1 ⟨rfl, g1⟩
  clear hmany
  have A1 := (hA2.ext ((Ext.refl _).alloc _)).ext g1
  have B1 := (hB.ext ((Ext.refl _).alloc _)).ext g1
  have E1 := (hE.alloc _).trans g1
  clear hA2 hB hE g1
  have HA1 := Lib.hid A1
  have HB1 := Lib.hid B1
  have HV1 := Lib.hid (HV.out.ext E1)
  have HE1 := Lib.hid E1
  have k1 := A1.c0
  have k2 := A1.c1
  have k3 := B1.c0
  have k4 := B1.c1
  have hsa := fun W (hW : Ext w1 W) => set_add _ s d W (HV1.out.ext hW) (by omega)
  have hra := fun W (hW : Ext w1 W) => ref_add _ s d W (HV1.out.ext hW) (by omega) (by omega)
  obtain ⟨⟨S2, yes⟩, hS⟩ : ∃ z, DS.add s d = z := ⟨_, rfl⟩
  rw [hS] at hsa hra
  unfold dotV at hsa hra
  simp only at hsa hra
  have HSA := Lib.hid hsa
  have HRA := Lib.hid hra
  clear hsa hra hS A1 B1 E1 HV
  generalize w.heap.size = N at *
  go_wp2_with fail
  go_cut [5, 6] from 13 to 19 (fun x y W => ∃ B pa ca pe ce, x = .pointer (some ⟨B, 0, none⟩) ∧ y = .bool yes ∧ Two W B 29 (.slice pa S2.base.length ca) (.slice pe S2.extra.length ce) ∧ SetV W (.agg #[.slice pa S2.base.length ca, .slice pe S2.extra.length ce]) S2 ∧ Ext w1 W)
  case first =>
    have xA := (Ext.refl w1).alloc (.cells #[.slice none 0 0, .slice none 0 0] 29)
    have m1 := xA.cell k1
    have m2 := xA.cell k2
    have m3 := xA.cell k3
    have m4 := xA.cell k4
    refine wp_region_noPanic ?_
    go_region_with (first
      | (go_at_call 10; refine (dots_own _ _ _ _ _ _ _).mono ?_; rintro e w5 ⟨rfl, g5⟩; have x5 := (Ext.refl w1).drew.trans g5; have t1 := x5.cell k3; have t2 := x5.cell k4; have t3 := (x5.alloc (.cells #[.slice none 0 0, .slice none 0 0] 29)).cell k3; have t4 := (x5.alloc (.cells #[.slice none 0 0, .slice none 0 0] 29)).cell k4; have tk1 : True := trivial)
      | (go_at_call 10; refine (dots_own _ _ _ _ _ _ _).mono ?_; rintro e w5 ⟨rfl, g5⟩; have x5 := xA.drew.trans g5; have t1 := x5.cell k3; have t2 := x5.cell k4; have tw0 := (Two.new w1 29 (.slice none 0 0) (.slice none 0 0)).ext ((Ext.refl _).drew.trans g5); have tk2 : True := trivial)
      | (go_at_call 20; have _t := tk1; (with_reducible refine (HSA.out _ x5).mono ?_); rintro e w6 ⟨v6, rfl, hs6, g6⟩; obtain ⟨_, _, rfl, hb6, he6⟩ := hs6; have HB6 := Lib.hid hb6; have HE6 := Lib.hid he6; obtain ⟨pa, ca, rfl, _⟩ := hb6; obtain ⟨pe, ce, rfl, _⟩ := he6; have HFIN : Hid (Two (w6.alloc (.cells #[(.slice pa S2.base.length ca), (.slice pe S2.extra.length ce)] 29)) w6.heap.size 29 (.slice pa S2.base.length ca) (.slice pe S2.extra.length ce) ∧ SetV (w6.alloc (.cells #[(.slice pa S2.base.length ca), (.slice pe S2.extra.length ce)] 29)) (.agg #[(.slice pa S2.base.length ca), (.slice pe S2.extra.length ce)]) S2 ∧ Ext w1 (w6.alloc (.cells #[(.slice pa S2.base.length ca), (.slice pe S2.extra.length ce)] 29))) := Lib.hid ⟨Two.new _ _ _ _, ⟨_, _, rfl, HB6.out.ext ((Ext.refl _).alloc _), HE6.out.ext ((Ext.refl _).alloc _)⟩, (x5.trans g6).alloc _⟩)
      | (go_at_call 20; have _t := tk1; (with_reducible refine (HSA.out _ (x5.alloc (.cells #[.slice none 0 0, .slice none 0 0] 29))).mono ?_); rintro e w6 ⟨v6, rfl, hs6, g6⟩; obtain ⟨_, _, rfl, hb6, he6⟩ := hs6; have HB6 := Lib.hid hb6; have HE6 := Lib.hid he6; obtain ⟨pa, ca, rfl, _⟩ := hb6; obtain ⟨pe, ce, rfl, _⟩ := he6; have tw := (Two.new w5 29 (.slice none 0 0) (.slice none 0 0)).ext g6; have v1 := tw.c0; have v2 := tw.c1; have v3 := tw.f0; have v4 := tw.f1; have y0 := grown_setCell w6 w5.heap.size 0 (.slice pa S2.base.length ca); have y1 := grown_setCell (w6.setCell ⟨w5.heap.size, 0, none⟩ (.slice pa S2.base.length ca)) w5.heap.size 1 (.slice pe S2.extra.length ce); have HFIN : Hid (Two ((w6.setCell ⟨w5.heap.size, 0, none⟩ (.slice pa S2.base.length ca)).setCell ⟨w5.heap.size, 1, none⟩ (.slice pe S2.extra.length ce)) w5.heap.size 29 (.slice pa S2.base.length ca) (.slice pe S2.extra.length ce) ∧ SetV ((w6.setCell ⟨w5.heap.size, 0, none⟩ (.slice pa S2.base.length ca)).setCell ⟨w5.heap.size, 1, none⟩ (.slice pe S2.extra.length ce)) (.agg #[(.slice pa S2.base.length ca), (.slice pe S2.extra.length ce)]) S2 ∧ Ext w1 ((w6.setCell ⟨w5.heap.size, 0, none⟩ (.slice pa S2.base.length ca)).setCell ⟨w5.heap.size, 1, none⟩ (.slice pe S2.extra.length ce))) := Lib.hid ⟨(tw.set0 _).set1 _, ⟨_, _, rfl, (HB6.out.box tw y0).box (tw.set0 _) y1, (HE6.out.box tw y0).box (tw.set0 _) y1⟩, ext_grownBy (ext_grownBy ((x5.alloc (.cells #[.slice none 0 0, .slice none 0 0] 29)).trans g6) y0 (by first | exact Nat.le_refl _ | exact x5.size)) y1 (by first | exact Nat.le_refl _ | exact x5.size)⟩)
      | (go_at_call 20; have _t := tk2; (with_reducible refine (HSA.out _ x5).mono ?_); rintro e w6 ⟨v6, rfl, hs6, g6⟩; obtain ⟨_, _, rfl, hb6, he6⟩ := hs6; have HB6 := Lib.hid hb6; have HE6 := Lib.hid he6; obtain ⟨pa, ca, rfl, _⟩ := hb6; obtain ⟨pe, ce, rfl, _⟩ := he6; have tw := tw0.ext g6; have v1 := tw.c0; have v2 := tw.c1; have v3 := tw.f0; have v4 := tw.f1; have y0 := grown_setCell w6 w1.heap.size 0 (.slice pa S2.base.length ca); have y1 := grown_setCell (w6.setCell ⟨w1.heap.size, 0, none⟩ (.slice pa S2.base.length ca)) w1.heap.size 1 (.slice pe S2.extra.length ce); have HFIN : Hid (Two ((w6.setCell ⟨w1.heap.size, 0, none⟩ (.slice pa S2.base.length ca)).setCell ⟨w1.heap.size, 1, none⟩ (.slice pe S2.extra.length ce)) w1.heap.size 29 (.slice pa S2.base.length ca) (.slice pe S2.extra.length ce) ∧ SetV ((w6.setCell ⟨w1.heap.size, 0, none⟩ (.slice pa S2.base.length ca)).setCell ⟨w1.heap.size, 1, none⟩ (.slice pe S2.extra.length ce)) (.agg #[(.slice pa S2.base.length ca), (.slice pe S2.extra.length ce)]) S2 ∧ Ext w1 ((w6.setCell ⟨w1.heap.size, 0, none⟩ (.slice pa S2.base.length ca)).setCell ⟨w1.heap.size, 1, none⟩ (.slice pe S2.extra.length ce))) := Lib.hid ⟨(tw.set0 _).set1 _, ⟨_, _, rfl, (HB6.out.box tw y0).box (tw.set0 _) y1, (HE6.out.box tw y0).box (tw.set0 _) y1⟩, ext_grownBy (ext_grownBy (x5.trans g6) y0 (by first | exact Nat.le_refl _ | exact x5.size)) y1 (by first | exact Nat.le_refl _ | exact x5.size)⟩))
    all_goals
      refine NoPanic.normal ?_
      go_wp2_with fail
      go_meet
      exact ⟨_, _, _, _, _, rfl, rfl, HFIN.out.1, HFIN.out.2.1, HFIN.out.2.2⟩
  case rest =>
  obtain ⟨B, pa, ca, pe, ce, rfl, rfl, hT, hS2, hx⟩ := hcut
  have HT2 := Lib.hid hT
  have HS2 := Lib.hid hS2
  have HX := Lib.hid hx
  have k1 := (HA1.out.ext hx).c0
  have k2 := (HA1.out.ext hx).c1
  have k3 := (HB1.out.ext hx).c0
  have k4 := (HB1.out.ext hx).c1
  clear hT hS2 hx
  go_wp2_with fail
  refine (HRA.out _ HX.out).mono ?_
  rintro e w6 ⟨v6, rfl, hs6, g6⟩
  obtain ⟨_, _, rfl, hb6, he6⟩ := hs6
  have HB6 := Lib.hid hb6
  have HE6 := Lib.hid he6
  obtain ⟨qa, da, rfl, _⟩ := hb6
  obtain ⟨qe, de, rfl, _⟩ := he6
  have HG6 := Lib.hid g6
  clear k1 k2 k3 k4 g6 HSA HRA HA1 HB1
  go_upto_region 5 with fail
  have hY := Two.new w6 24 (.slice qa S2.base.length da) (.slice qe S2.extra.length de)
  have hxa := (Ext.refl w6).alloc (.cells #[.slice qa S2.base.length da, .slice qe S2.extra.length de] 24)
  have hU := (HT2.out.ext HG6.out).ext hxa
  have hSU := (HS2.out.ext HG6.out).ext hxa
  have hSY : SetV _ (.agg #[.slice qa S2.base.length da, .slice qe S2.extra.length de]) S2 := ⟨_, _, rfl, HB6.out.ext hxa, HE6.out.ext hxa⟩
  have hEE := ((HE1.out.trans HX.out).trans HG6.out).trans hxa
  generalize w6.alloc (.cells #[.slice qa S2.base.length da, .slice qe S2.extra.length de] 24) = w7 at *
  generalize w6.heap.size = Y at *
  have q1 := fun (p : ExtOf w7) => dots_its pa pe S2.base.length ca S2.extra.length ce p.to
  have q2 := fun (p : ExtOf w7) => ref_set_same _ _ S2 S2 p.to (hSU.ext p.ext) (hSY.ext p.ext)
  rw [decide_eq_true rfl] at q2
  have q3 := fun (p : ExtOf w7) => dots_awake p.to
  have e1 := cell_ext hU.c0
  have e2 := cell_ext hU.c1
  have e3 := cell_ext hY.c0
  have e4 := cell_ext hY.c1
  generalize S2.base.length = z1 at *
  generalize S2.extra.length = z2 at *
  have Q1 := Lib.hid q1
  have Q2 := Lib.hid q2
  have Q3 := Lib.hid q3
  have HEE := Lib.hid hEE
  have t1 : (yes == yes) = true := beq_self_eq_true yes
  clear q1 q2 q3 hY hxa hU hSU hSY hEE HT2 HS2 HX HE1 HB6 HE6 HG6 HV1
  refine wp_region_quiet_ext (by kernel_rfl) (by kernel_rfl) ?_
  repeat (go_big_quiet_step (first
    | (go_at_call 22; exact calls_ext (Q1.out _))
    | (go_at_call 17; exact calls_ext (Q2.out _))
    | (go_at_call 9; exact calls_ext (Q3.out _))))
  refine wpQuiet_nil ?_
  intro w8 g8
  go_wp2
  go_ret
  exact ⟨rfl, HEE.out.trans g8⟩

set_option maxRecDepth 100000 in
theorem law_adds (p1 p2 : Option Addr) (n1 c1 n2 c2 : Nat) (l1 l2 : List Dot) (d : Dot) (w : World) (k1 : n1 ≤ c1) (m1 : c1 ≤ maxLen) (e1 : DotsW w p1 n1 l1) (k2 : n2 ≤ c2) (m2 : c2 ≤ maxLen) (e2 : DotsW w p2 n2 l2) :
    Calls Try.prog 4 #[.agg #[.slice p1 n1 c1, .slice p2 n2 c2], .agg #[.int .i64 d.1, .int .i64 d.2]] w fun e w' => e = .returned (.bool true) ∧ Ext w w' := by
  have hE := ((Ext.refl w).alloc (.cells #[.slice p1 n1 c1, .slice p2 n2 c2] 24)).alloc (.cells #[.int .i64 d.1, .int .i64 d.2] 26)
  have hmany := many_one p1 p2 n1 c1 n2 c2 (w.heap.size + 1 + 1) ((w.alloc (.cells #[.slice p1 n1 c1, .slice p2 n2 c2] 24)).alloc (.cells #[.int .i64 d.1, .int .i64 d.2] 26)) (by rw [World.size_alloc, World.size_alloc])
  by_cases hg : 80 < n1 ∨ 60 < n2
  · rw [decide_eq_true hg] at hmany
    have HM := Lib.hid hmany
    clear hmany e1 e2 k1 m1 k2 m2 hg
    go_enter Try.func4, Try.ntmps4
    go_wp2_with fail
    refine HM.out.mono ?_
    rintro e w1 ⟨rfl, g1⟩
    go_wp2_with fail
    refine (dots_awake _).mono ?_
    rintro e w7 ⟨rfl, g7⟩
    go_wp2
    go_ret
    exact ⟨rfl, ((hE.alloc _).trans g1).trans g7⟩
  · exact law_adds_few p1 p2 n1 c1 n2 c2 _ d w (setV_of k1 m1 e1 k2 m2 e2 (by omega) (by omega)) (by omega) (by omega)
end Go.Proofs.Ytdgjjlffdfpkcaa
