/- What Check of a set answers: why it may not be. -/
import Derived.Test.YtdgjjlffdfpkcaaVecGet
namespace Go.Proofs.Ytdgjjlffdfpkcaa
open Go.RowKit

namespace DS
/-- The dot ahead of a place. -/
def prevAt (l : List Dot) (k : Nat) : Option Dot := match k with | 0 => .none | k + 1 => l[k]?
theorem prevAt_succ {l : List Dot} {k : Nat} (h : k < l.length) : prevAt l (k + 1) = some l[k] := by simp [prevAt, h]
theorem check_one (d : Dot) : Vec.checkE (-1) [d] = Vec.dotE d := by
  unfold Vec.checkE
  by_cases h : Vec.dotE d = 0
  · have := Vec.dotE_zero h
    rw [if_neg (by simp [h]), if_neg (by omega), h]
    rfl
  · rw [if_pos h]
theorem cmpD_lt (a b : Dot) : cmpD a b < 0 ↔ lt a b := by
  unfold cmpD cmpI lt
  by_cases h1 : a.1 < b.1
  · simp [h1]
  · by_cases h2 : b.1 < a.1
    · simp [h1, h2]; omega
    · have : a.1 = b.1 := by omega
      simp only [this, Int.lt_irrefl, if_false]
      by_cases h3 : a.2 < b.2
      · simp [h3]
      · by_cases h4 : b.2 < a.2 <;> simp [h3, h4]
theorem cmpD_zero (a b : Dot) : cmpD a b = 0 ↔ a = b := by
  unfold cmpD cmpI
  obtain ⟨a1, a2⟩ := a
  obtain ⟨b1, b2⟩ := b
  simp only [Prod.mk.injEq]
  by_cases h1 : a1 < b1
  · simp [h1]; omega
  · by_cases h2 : b1 < a1
    · simp [h1, h2]; omega
    · have : a1 = b1 := by omega
      subst this
      by_cases h3 : a2 < b2
      · simp [h3]; omega
      · by_cases h4 : b2 < a2
        · simp [h3, h4]; omega
        · simp [h3, h4]; omega
theorem exE_good {base : List Dot} {prev : Option Dot} {d : Dot} {l : List Dot} (h : Vec.dotE d = 0) : exE base prev (d :: l) = if after prev d = false then 8 else if d.2 ≤ Vec.cnt base d.1 + 1 then 7 else exE base (some d) l := by
  rw [exE, if_neg (by simp [h])]
theorem exE_bad {base : List Dot} {prev : Option Dot} {d : Dot} {l : List Dot} (h : Vec.dotE d ≠ 0) : exE base prev (d :: l) = Vec.dotE d := by
  rw [exE, if_pos h]
end DS

set_option maxRecDepth 100000 in
theorem set_check_vec (vb ve : Value) (s : DS.S) (w : World) (hb : DotsV w vb s.base) (h0 : Vec.checkE (-1) s.base ≠ 0) :
    Calls Try.prog 11 #[.agg #[vb, ve]] w fun e w' => e = .returned (.int .i64 (DS.check s : Nat)) ∧ Ext w w' := by
  have hr : DS.check s = Vec.checkE (-1) s.base := if_pos h0
  obtain ⟨pb, cb, rfl, _, _, hd⟩ := hb
  have hE : Ext w (w.alloc (.cells #[.slice pb s.base.length cb, ve] 29)) := (Ext.refl _).alloc _
  have hc := vec_check pb s.base.length cb s.base _ (hd.ext hE)
  rw [hr]
  generalize Vec.checkE (-1) s.base = q at *
  generalize s.base.length = n at *
  have HC := Lib.hid hc
  have hq0 : ((q : Int) != 0) = true := by rw [bne_iff_ne]; omega
  clear hr hc h0
  go_enter Try.func11, Try.ntmps11
  go_wp2_with fail
  refine HC.out.mono ?_
  rintro e w2 ⟨rfl, g2⟩
  go_wp2
  go_ret
  exact ⟨rfl, hE.trans g2⟩

set_option maxRecDepth 100000 in
theorem set_check_nil (vb : Value) (q : Option Addr) (c : Nat) (base : List Dot) (w : World) (hb : DotsV w vb base) (h0 : Vec.checkE (-1) base = 0) :
    Calls Try.prog 11 #[.agg #[vb, .slice q 0 c]] w fun e w' => e = .returned (.int .i64 0) ∧ Ext w w' := by
  obtain ⟨pb, cb, rfl, _, _, hd⟩ := hb
  have hE : Ext w (w.alloc (.cells #[.slice pb base.length cb, .slice q 0 c] 29)) := (Ext.refl _).alloc _
  have hc := vec_check pb base.length cb base _ (hd.ext hE)
  have he : (w.alloc (.cells #[.slice pb base.length cb, .slice q 0 c] 29)).cell? ⟨w.heap.size, 1, none⟩ = some (.slice q 0 c) := alloc_cell w _ _ 1
  rw [h0] at hc
  generalize base.length = n at *
  have HC := Lib.hid hc
  clear hc h0
  go_enter Try.func11, Try.ntmps11
  go_wp2_with fail
  refine HC.out.mono ?_
  rintro e w2 ⟨rfl, g2⟩
  have he2 := g2.cell he
  go_wp2
  refine wp_loop_rounds 1 ?_
  rw [rounds_succ]
  go_wp2
  go_ret
  exact ⟨rfl, hE.trans g2⟩

set_option maxRecDepth 100000 in
set_option maxHeartbeats 8000000 in
theorem set_check_some (pb : Option Addr) (cb : Nat) (b off n c : Nat) (base l : List Dot) (w : World) (hb : DotsV w (.slice pb base.length cb) base) (h0 : Vec.checkE (-1) base = 0) (hn : l.length = n) (hm : n ≤ 70368744177664) (hl : DotsAt w b off l) :
    Calls Try.prog 11 #[.agg #[.slice pb base.length cb, .slice (some ⟨b, off, none⟩) n c]] w fun e w' => e = .returned (.int .i64 (DS.exE base .none l : Nat)) ∧ Ext w w' := by
  have HB := Lib.hid hb
  have HL : Hid (DotsAt w b off l) := hl
  have HN := Lib.hid hn
  have ho := Vec.check_ok.1 h0
  obtain ⟨pb', cb', e1, _, _, hd⟩ := hb
  have hE : Ext w (w.alloc (.cells #[.slice pb base.length cb, .slice (some ⟨b, off, none⟩) n c] 29)) := (Ext.refl _).alloc _
  have hc := vec_check pb' base.length cb base _ (hd.ext hE)
  obtain ⟨rfl, -, -⟩ : pb = pb' ∧ True ∧ True := by injection e1 with e1; exact ⟨e1, trivial, trivial⟩
  clear hl hn e1 hd
  have hb0 : (w.alloc (.cells #[.slice pb base.length cb, .slice (some ⟨b, off, none⟩) n c] 29)).cell? ⟨w.heap.size, 0, none⟩ = some (.slice pb base.length cb) := alloc_cell w _ _ 0
  have hb1 : (w.alloc (.cells #[.slice pb base.length cb, .slice (some ⟨b, off, none⟩) n c] 29)).cell? ⟨w.heap.size, 1, none⟩ = some (.slice (some ⟨b, off, none⟩) n c) := alloc_cell w _ _ 1
  rw [h0] at hc
  have HC := Lib.hid hc
  have hget : ∀ p w1, Ext w w1 → Calls Try.prog 29 #[.slice pb base.length cb, .int .i64 p] w1 fun e w' => e = .returned (.int .i64 (Vec.cnt base p)) ∧ Ext w1 w' := fun p w1 h => by
    have := vec_get _ base p w1 (HB.out.ext h)
    unfold getL at this
    rw [if_pos h0] at this
    exact this
  have HG := Lib.hid hget
  clear hc hget
  have hcnt : ∀ p, 0 ≤ Vec.cnt base p ∧ Vec.cnt base p ≤ 1048576 := fun p => ⟨Vec.cnt_nonneg ho p, Vec.cnt_le ho p⟩
  clear h0 ho HB
  obtain ⟨r, hr⟩ : ∃ r, DS.exE base .none l = r := ⟨_, rfl⟩
  rw [hr]
  have HR := Lib.hid hr
  clear hr
  generalize base.length = nb at *
  go_enter Try.func11, Try.ntmps11
  go_wp2_with fail
  refine HC.out.mono ?_
  rintro e w2 ⟨rfl, g2⟩
  have hb2 := g2.cell hb0
  have hb3 := g2.cell hb1
  have hE2 := hE.trans g2
  clear hb0 hb1 HC hE g2
  go_wp2
  go_loopw [16] (fun i wr => ∃ (k : Nat), k ≤ n ∧ i = .int .i64 k ∧ DS.exE base (DS.prevAt l k) (l.drop k) = r ∧ Ext w2 wr) (fun i _ => n - (intOf i).toNat)
  case atStart => exact ⟨0, by omega, rfl, HR.out, Ext.refl _⟩
  case round =>
    obtain ⟨k, hk, rfl, hck, he⟩ := hrel
    by_cases hlt : k < n
    · have hkl : k < l.length := by rw [HN.out]; exact hlt
      have h1 := he.cell (hE2.cell (HL.out k hkl).1)
      have h2 := he.cell (hE2.cell (HL.out k hkl).2)
      have h3 := he.cell hb2
      have h4 := he.cell hb3
      rw [List.drop_eq_getElem_cons hkl] at hck
      have hla := Lib.hid (DS.prevAt_succ hkl)
      generalize l[k] = d at h1 h2 hck hla
      have hA2 : Ext wr ((wr.alloc (.cells #[.int .i64 d.1, .int .i64 d.2] 26)).alloc (.cells #[.int .i64 d.1, .int .i64 d.2] 26)) := ((Ext.refl _).alloc _).alloc _
      have hA : Ext w2 ((wr.alloc (.cells #[.int .i64 d.1, .int .i64 d.2] 26)).alloc (.cells #[.int .i64 d.1, .int .i64 d.2] 26)) := he.trans hA2
      have hs : (wr.alloc (.cells #[.int .i64 d.1, .int .i64 d.2] 26)).heap.size = wr.heap.size + 1 := World.size_alloc _ _
      have c1 : ((wr.alloc (.cells #[.int .i64 d.1, .int .i64 d.2] 26)).alloc (.cells #[.int .i64 d.1, .int .i64 d.2] 26)).cell? ⟨wr.heap.size, 0, none⟩ = some (.int .i64 d.1) := ((Ext.refl _).alloc _).cell (alloc_cell wr _ _ 0)
      have c2 : ((wr.alloc (.cells #[.int .i64 d.1, .int .i64 d.2] 26)).alloc (.cells #[.int .i64 d.1, .int .i64 d.2] 26)).cell? ⟨wr.heap.size, 1, none⟩ = some (.int .i64 d.2) := ((Ext.refl _).alloc _).cell (alloc_cell wr _ _ 1)
      have c3 : ((wr.alloc (.cells #[.int .i64 d.1, .int .i64 d.2] 26)).alloc (.cells #[.int .i64 d.1, .int .i64 d.2] 26)).cell? ⟨wr.heap.size + 1, 0, none⟩ = some (.int .i64 d.1) := by rw [← hs]; exact alloc_cell _ _ _ 0
      have c4 : ((wr.alloc (.cells #[.int .i64 d.1, .int .i64 d.2] 26)).alloc (.cells #[.int .i64 d.1, .int .i64 d.2] 26)).cell? ⟨wr.heap.size + 1, 1, none⟩ = some (.int .i64 d.2) := by rw [← hs]; exact alloc_cell _ _ _ 1
      have hone := vec_check_some (wr.heap.size + 1) 0 1 1 [d] ((wr.alloc (.cells #[.int .i64 d.1, .int .i64 d.2] 26)).alloc (.cells #[.int .i64 d.1, .int .i64 d.2] 26)) rfl (by omega) (fun i hi => by
        obtain rfl : i = 0 := by simpa using hi
        exact ⟨c3, c4⟩)
      rw [DS.check_one] at hone
      obtain ⟨q, hq⟩ : ∃ q, Vec.dotE d = q := ⟨_, rfl⟩
      rw [hq] at hone
      have HONE := Lib.hid hone
      clear hone hs
      by_cases hq0 : q = 0
      · subst hq0
        rw [DS.exE_good hq] at hck
        clear hq
        have hcd := hcnt d.1
        have HG1 := Lib.hid (HG.out d.1)
        generalize Vec.cnt base d.1 = cn at *
        cases k with
        | zero =>
          rw [if_neg (by simp [DS.after, DS.prevAt])] at hck
          simp only [Nat.zero_mul, Nat.add_zero] at h1 h2
          have e0 : ((0 : Nat) : Int) = 0 := rfl
          rw [e0]
          by_cases hsm : d.2 ≤ cn + 1
          · have hdl : decide (d.2 ≤ cn + 1) = true := decide_eq_true hsm
            rw [if_pos hsm] at hck
            subst hck
            clear hsm
            go_wp2_with fail
            refine HONE.out.mono ?_
            rintro e w3 ⟨rfl, g3⟩
            have f1 := g3.cell c1
            have f2 := g3.cell c2
            have f3 := g3.cell (hA2.cell h3)
            have f4 := g3.cell (hA2.cell h4)
            have hw3 := hA.trans g3
            have hA3 := hA2.trans g3
            clear c1 c2 c3 c4 HONE g3
            have e3 := cell_ext f1
            have e4 := cell_ext f2
            have e5 := cell_ext f3
            have e6 := cell_ext f4
            clear h1 h2 h3 h4
            go_wp2
            refine wp_region_quiet_ext (by kernel_rfl) (by kernel_rfl) ?_
            repeat (go_big_quiet_step (fail))
            refine wpQuiet_nil ?_
            intro w4 g4
            have e1 := cell_ext (g4.cell f1)
            have e2 := cell_ext (g4.cell f2)
            have e9 := cell_ext (g4.cell f3)
            have HG2 := Lib.hid fun (p : ExtOf w4) => HG1.out p.to (hE2.trans ((hw3.trans g4).trans p.ext))
            clear e3 e4 e5 e6 f1 f2 f3 f4
            go_wp2
            refine wp_region_quiet_ext (by kernel_rfl) (by kernel_rfl) ?_
            repeat (go_big_quiet_step ((go_at_call 29; exact calls_ext (HG2.out _))))
            refine wpQuiet_nil ?_
            intro w5 g5
            go_wp2
            go_ret
            exact ⟨rfl, hE2.trans (hw3.trans (g4.trans g5))⟩
          · have hdl : decide (d.2 ≤ cn + 1) = false := decide_eq_false hsm
            rw [if_neg hsm] at hck
            have HK := Lib.hid hck
            clear hck
            clear hsm
            go_wp2_with fail
            refine HONE.out.mono ?_
            rintro e w3 ⟨rfl, g3⟩
            have f1 := g3.cell c1
            have f2 := g3.cell c2
            have f3 := g3.cell (hA2.cell h3)
            have f4 := g3.cell (hA2.cell h4)
            have hw3 := hA.trans g3
            have hA3 := hA2.trans g3
            clear c1 c2 c3 c4 HONE g3
            have e3 := cell_ext f1
            have e4 := cell_ext f2
            have e5 := cell_ext f3
            have e6 := cell_ext f4
            clear h1 h2 h3 h4
            go_wp2
            refine wp_region_quiet_ext (by kernel_rfl) (by kernel_rfl) ?_
            repeat (go_big_quiet_step (fail))
            refine wpQuiet_nil ?_
            intro w4 g4
            have e1 := cell_ext (g4.cell f1)
            have e2 := cell_ext (g4.cell f2)
            have e9 := cell_ext (g4.cell f3)
            have HG2 := Lib.hid fun (p : ExtOf w4) => HG1.out p.to (hE2.trans ((hw3.trans g4).trans p.ext))
            clear e3 e4 e5 e6 f1 f2 f3 f4
            go_wp2
            refine wp_region_quiet_ext (by kernel_rfl) (by kernel_rfl) ?_
            repeat (go_big_quiet_step ((go_at_call 29; exact calls_ext (HG2.out _))))
            refine wpQuiet_nil ?_
            intro w5 g5
            go_wp2
            go_roundw
            case rel => exact ⟨1, by omega, by first | rfl | go_num, by rw [hla.out]; exact HK.out, hw3.trans (g4.trans g5)⟩
            case measure => simp [intOf]; omega
        | succ k =>
          have hkl2 : k < l.length := by omega
          have h5 := he.cell (hE2.cell (HL.out k hkl2).1)
          have h6 := he.cell (hE2.cell (HL.out k hkl2).2)
          rw [DS.prevAt_succ hkl2] at hck
          generalize l[k] = d0 at h5 h6 hck
          have hcm := fun w1 => dots_compare d0 d w1
          have hlt0 := DS.cmpD_lt d0 d
          generalize cmpD d0 d = cc at *
          have HCM := Lib.hid hcm
          clear hcm
          by_cases hord : cc < 0
          · have hc0 : decide (cc ≥ 0) = false := decide_eq_false (by omega)
            rw [if_neg (by simp [DS.after, hlt0.1 hord])] at hck
            clear hlt0 hord
            by_cases hsm : d.2 ≤ cn + 1
            · have hdl : decide (d.2 ≤ cn + 1) = true := decide_eq_true hsm
              rw [if_pos hsm] at hck
              subst hck
              clear hsm
              go_wp2_with fail
              refine HONE.out.mono ?_
              rintro e w3 ⟨rfl, g3⟩
              have f1 := g3.cell c1
              have f2 := g3.cell c2
              have f3 := g3.cell (hA2.cell h3)
              have f4 := g3.cell (hA2.cell h4)
              have hw3 := hA.trans g3
              have hA3 := hA2.trans g3
              clear c1 c2 c3 c4 HONE g3
              have e3 := cell_ext f1
              have e4 := cell_ext f2
              have e5 := cell_ext f3
              have e6 := cell_ext f4
              have e7 := cell_ext (hA3.cell h5)
              have e8 := cell_ext (hA3.cell h6)
              clear h1 h2 h3 h4 h5 h6
              go_wp2
              refine wp_region_quiet_ext (by kernel_rfl) (by kernel_rfl) ?_
              repeat (go_big_quiet_step ((go_at_call 28; exact calls_ext (HCM.out _))))
              refine wpQuiet_nil ?_
              intro w4 g4
              have e1 := cell_ext (g4.cell f1)
              have e2 := cell_ext (g4.cell f2)
              have e9 := cell_ext (g4.cell f3)
              have HG2 := Lib.hid fun (p : ExtOf w4) => HG1.out p.to (hE2.trans ((hw3.trans g4).trans p.ext))
              clear e3 e4 e5 e6 f1 f2 f3 f4 e7 e8
              go_wp2
              refine wp_region_quiet_ext (by kernel_rfl) (by kernel_rfl) ?_
              repeat (go_big_quiet_step ((go_at_call 29; exact calls_ext (HG2.out _))))
              refine wpQuiet_nil ?_
              intro w5 g5
              go_wp2
              go_ret
              exact ⟨rfl, hE2.trans (hw3.trans (g4.trans g5))⟩
            · have hdl : decide (d.2 ≤ cn + 1) = false := decide_eq_false hsm
              rw [if_neg hsm] at hck
              have HK := Lib.hid hck
              clear hck
              clear hsm
              go_wp2_with fail
              refine HONE.out.mono ?_
              rintro e w3 ⟨rfl, g3⟩
              have f1 := g3.cell c1
              have f2 := g3.cell c2
              have f3 := g3.cell (hA2.cell h3)
              have f4 := g3.cell (hA2.cell h4)
              have hw3 := hA.trans g3
              have hA3 := hA2.trans g3
              clear c1 c2 c3 c4 HONE g3
              have e3 := cell_ext f1
              have e4 := cell_ext f2
              have e5 := cell_ext f3
              have e6 := cell_ext f4
              have e7 := cell_ext (hA3.cell h5)
              have e8 := cell_ext (hA3.cell h6)
              clear h1 h2 h3 h4 h5 h6
              go_wp2
              refine wp_region_quiet_ext (by kernel_rfl) (by kernel_rfl) ?_
              repeat (go_big_quiet_step ((go_at_call 28; exact calls_ext (HCM.out _))))
              refine wpQuiet_nil ?_
              intro w4 g4
              have e1 := cell_ext (g4.cell f1)
              have e2 := cell_ext (g4.cell f2)
              have e9 := cell_ext (g4.cell f3)
              have HG2 := Lib.hid fun (p : ExtOf w4) => HG1.out p.to (hE2.trans ((hw3.trans g4).trans p.ext))
              clear e3 e4 e5 e6 f1 f2 f3 f4 e7 e8
              go_wp2
              refine wp_region_quiet_ext (by kernel_rfl) (by kernel_rfl) ?_
              repeat (go_big_quiet_step ((go_at_call 29; exact calls_ext (HG2.out _))))
              refine wpQuiet_nil ?_
              intro w5 g5
              go_wp2
              go_roundw
              case rel => exact ⟨k + 1 + 1, by omega, by first | rfl | go_num, by rw [hla.out]; exact HK.out, hw3.trans (g4.trans g5)⟩
              case measure => simp [intOf]; omega
          · have hc0 : decide (cc ≥ 0) = true := decide_eq_true (by omega)
            rw [if_pos (by simp [DS.after]; exact fun h => hord (hlt0.2 h))] at hck
            subst hck
            clear hlt0 hord
            go_wp2_with fail
            refine HONE.out.mono ?_
            rintro e w3 ⟨rfl, g3⟩
            have f1 := g3.cell c1
            have f2 := g3.cell c2
            have f3 := g3.cell (hA2.cell h3)
            have f4 := g3.cell (hA2.cell h4)
            have hw3 := hA.trans g3
            have hA3 := hA2.trans g3
            clear c1 c2 c3 c4 HONE g3
            have e3 := cell_ext f1
            have e4 := cell_ext f2
            have e5 := cell_ext f3
            have e6 := cell_ext f4
            have e7 := cell_ext (hA3.cell h5)
            have e8 := cell_ext (hA3.cell h6)
            clear f1 f2 f3 f4 h1 h2 h3 h4 h5 h6
            go_wp2
            refine wp_region_quiet_ext (by kernel_rfl) (by kernel_rfl) ?_
            repeat (go_big_quiet_step ((go_at_call 28; exact calls_ext (HCM.out _))))
            refine wpQuiet_nil ?_
            intro w4 g4
            go_wp2
            go_ret
            exact ⟨rfl, hE2.trans (hw3.trans g4)⟩
      · rw [DS.exE_bad (by rw [hq]; exact hq0), hq] at hck
        subst hck
        have hq1 : ((q : Int) != 0) = true := by rw [bne_iff_ne]; omega
        clear hq hq0
        go_wp2_with fail
        refine HONE.out.mono ?_
        rintro e w3 ⟨rfl, g3⟩
        have f1 := g3.cell c1
        have f2 := g3.cell c2
        have f3 := g3.cell (hA2.cell h3)
        have f4 := g3.cell (hA2.cell h4)
        have hw3 := hA.trans g3
        have hA3 := hA2.trans g3
        clear c1 c2 c3 c4 HONE g3
        go_wp2
        go_ret
        exact ⟨rfl, hE2.trans hw3⟩
    · obtain rfl : k = n := by omega
      rw [List.drop_eq_nil_of_le (by rw [HN.out]; omega)] at hck
      obtain rfl : 0 = r := hck
      go_wp2
      go_ret
      exact ⟨rfl, hE2.trans he⟩

/-- A value that is a set. -/
def SetV (w : World) (v : Value) (s : DS.S) : Prop := ∃ vb ve, v = .agg #[vb, ve] ∧ DotsV w vb s.base ∧ DotsV w ve s.extra
theorem SetV.ext {w w' : World} {v : Value} {s : DS.S} (h : SetV w v s) (he : Ext w w') : SetV w' v s := by
  obtain ⟨vb, ve, h1, h2, h3⟩ := h; exact ⟨vb, ve, h1, h2.ext he, h3.ext he⟩

/-- What Check of a set answers. -/
theorem set_check (v : Value) (s : DS.S) (w : World) (h : SetV w v s) :
    Calls Try.prog 11 #[v] w fun e w' => e = .returned (.int .i64 (DS.check s : Nat)) ∧ Ext w w' := by
  obtain ⟨vb, ve, rfl, hb, he⟩ := h
  by_cases h0 : Vec.checkE (-1) s.base ≠ 0
  · exact set_check_vec vb ve s w hb h0
  · have h0 : Vec.checkE (-1) s.base = 0 := Classical.not_not.1 h0
    have hr : DS.check s = DS.exE s.base .none s.extra := if_neg (by simp [h0])
    rw [hr]
    obtain ⟨pe, ce, rfl, _, _, he⟩ := he
    obtain ⟨h1, h2, _, h3 | ⟨b, off, rfl, h4⟩⟩ := he
    · have hl : s.extra = [] := List.eq_nil_of_length_eq_zero h3
      rw [hl]
      exact set_check_nil vb pe ce s.base w hb h0
    · have hb' := hb
      obtain ⟨pb, cb, rfl, _⟩ := hb'
      exact set_check_some pb cb b off _ ce s.base s.extra w hb h0 h1 h2 h4

end Go.Proofs.Ytdgjjlffdfpkcaa
