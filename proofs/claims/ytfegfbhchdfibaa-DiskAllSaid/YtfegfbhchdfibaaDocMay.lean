/- Why the document's disk can't do a step. -/
import Derived.Test.YtfegfbhchdfibaaDocSteps
namespace Go.Proofs.Ytfegfbhchdfibaa
open Go.RowKit

theorem okN_no {s : ByteArray} (h : DK.nameB s = false ∨ 8 < s.size) : DK.okN s = false := by
  unfold DK.okN
  rcases h with h | h
  · rw [h]; rfl
  · rw [decide_eq_false (by omega)]; simp
theorem okN_yes {s : ByteArray} (h : DK.nameB s = true) (h2 : s.size ≤ 8) : DK.okN s = true := by
  unfold DK.okN
  rw [h, decide_eq_true h2]; rfl
theorem okN_split {s : ByteArray} (h : DK.okN s = true) : DK.nameB s = true ∧ s.size ≤ 8 := by
  unfold DK.okN at h
  rw [Bool.and_eq_true] at h
  exact ⟨h.1, of_decide_eq_true h.2⟩
theorem okN_not {s : ByteArray} (h : DK.okN s = false) : (DK.nameB s = true ∧ 8 < s.size) ∨ DK.nameB s = false := by
  cases hn : DK.nameB s with
  | false => exact .inr rfl
  | true =>
    refine .inl ⟨rfl, ?_⟩
    unfold DK.okN at h
    rw [hn, Bool.true_and] at h
    have := of_decide_eq_false h
    omega

set_option maxRecDepth 100000 in
set_option maxHeartbeats 4000000 in
theorem ref_may {w : World} {d : DK.D} {sv nv tv : Value} {n1 n3 c1 c3 : Nat} {p1 p3 : Option Addr} (fuse : Int) (y : RStep) (hv : FsV w nv d.now) (hsv : sv = .slice p1 n1 c1) (htv : tv = .slice p3 n3 c3)
    (hy : y.name.size ≤ 100000 ∧ y.to_.size ≤ 100000 ∧ y.s.size ≤ 100000) (hk : 0 ≤ y.kind ∧ y.kind ≤ 3) (hs : DK.Small 100000 d.now) (hs2 : ∀ st, st = y.st → y.kind = 0 → DK.okS d.now st → DK.blocks (DK.doS d.now st) ≤ 1152921504606846976) :
    Calls Try.prog 50 #[.agg (rdCells d.room sv nv tv d.dead fuse), .agg (rsCells y)] w fun e w' => e = .returned (.int .i64 (DK.rmay d y)) ∧ Ext w w' := by
  subst hsv htv
  obtain ⟨kd, nm, tt, at', s⟩ := y
  obtain ⟨y1, y2, y3⟩ := hy
  simp only at y1 y2 y3 hk hs2
  have hrm : DK.rmay d ⟨kd, nm, tt, at', s⟩ = if d.dead = true then 10 else if DK.okN nm = false ∨ (kd = 2 ∧ DK.okN tt = false) then 1 else if kd ≠ 0 ∧ DK.has d.now nm = false then 3
    else if kd < 2 ∧ (at' < 0 ∨ ((DK.get d.now nm).size : Int) < at') then 2 else if kd = 0 ∧ DK.fitsB d (DK.doS d.now (RStep.st ⟨kd, nm, tt, at', s⟩)) = false then 4 else 0 := rfl
  obtain ⟨ans, hans⟩ : ∃ a, DK.rmay d ⟨kd, nm, tt, at', s⟩ = a := ⟨_, rfl⟩
  rw [hans] at hrm ⊢
  clear hans
  have HRM := Lib.hid hrm
  have HN1 := Lib.hid (ref_name nm (by omega))
  have HN2 := Lib.hid (ref_name tt (by omega))
  have HV := Lib.hid hv
  obtain ⟨p2, c2, rfl, _, _⟩ := hv
  unfold rdCells rsCells
  obtain ⟨b1, b2, hx⟩ := two_alloc w #[.int .i64 d.room, .slice p1 n1 c1, .slice p2 d.now.length c2, .slice p3 n3 c3, .bool d.dead, .int .i64 fuse] #[.int .i64 kd, .string nm, .string tt, .int .i64 at', .string s] 44 75
  have a0 := b1 0 (by show _ < 6; omega)
  have a2 := b1 2 (by show _ < 6; omega)
  have a4 := b1 4 (by show _ < 6; omega)
  have d0 := b2 0
  have d1 := b2 1
  have d2 := b2 2
  have d3 := b2 3
  have d4 := b2 4
  simp only [List.getElem?_toArray, List.getElem?_cons_zero, List.getElem?_cons_succ] at a0 a2 a4 d0 d1 d2 d3 d4
  have HX := Lib.hid hx
  have hfit : ∀ m, DK.fitsB d m = (decide (m.length ≤ 16) && decide ((DK.blocks m : Int) ≤ d.room)) := fun _ => rfl
  have HFIT := Lib.hid hfit
  clear b1 b2 hx hrm hfit
  generalize d.room = room at *
  generalize d.dead = dead at *
  go_enter Try.func50, Try.ntmps50
  go_upto_region 1 with fail
  generalize hW : (w.alloc _).alloc _ = W at *
  generalize hX : w.heap.size = X at *
  clear hW hX
  have HVW := Lib.hid (HV.out.ext HX.out)
  have HBY := Lib.hid (fun p : ExtOf W => ref_bytes (HVW.out.ext p.ext) nm)
  cases dead with
  | true =>
    go_wp2
    go_ret
    have := HRM.out
    simp only [if_true] at this
    rw [this]
    exact ⟨rfl, HX.out⟩
  | false =>
    have hrm := HRM.out
    simp only [Bool.false_eq_true, if_false] at hrm
    have HRM := Lib.hid hrm
    clear hrm
    by_cases hbad : DK.okN nm = false
    · have hrm := HRM.out
      rw [if_pos (.inl hbad)] at hrm
      have HR := Lib.hid hrm
      rcases okN_not hbad with ⟨h1, h2⟩ | h1
      · have t1 : decide ((8 : Int) < (nm.size : Int)) = true := decide_eq_true (by omega)
        rw [h1] at HN1
        clear hrm hbad
        go_wp2_with fail
        refine (HN1.out _).mono ?_
        rintro e w' ⟨rfl, rfl⟩
        go_wp2
        go_ret
        rw [HR.out]
        exact ⟨rfl, HX.out⟩
      · rw [h1] at HN1
        clear hrm hbad
        go_wp2_with fail
        refine (HN1.out _).mono ?_
        rintro e w' ⟨rfl, rfl⟩
        go_wp2
        go_ret
        rw [HR.out]
        exact ⟨rfl, HX.out⟩
    · have HRM0 := HRM
      obtain ⟨h1, h2⟩ := okN_split (by simpa using hbad)
      have t1 : decide ((8 : Int) < (nm.size : Int)) = false := decide_eq_false (by omega)
      rw [h1] at HN1
      clear h1 h2
      by_cases k2 : kd = 2
      · subst k2
        by_cases hbt : DK.okN tt = false
        · have hrm := HRM0.out
          rw [if_pos (.inr ⟨rfl, hbt⟩)] at hrm
          have HR := Lib.hid hrm
          rcases okN_not hbt with ⟨h3, h4⟩ | h3
          · have t4 : decide ((8 : Int) < (tt.size : Int)) = true := decide_eq_true (by omega)
            rw [h3] at HN2
            clear hrm hbt
            go_wp2_with fail
            refine (HN1.out _).mono ?_
            rintro e w' ⟨rfl, rfl⟩
            go_wp2_with fail
            refine (HN2.out _).mono ?_
            rintro e w' ⟨rfl, rfl⟩
            go_wp2
            go_ret
            rw [HR.out]
            exact ⟨rfl, HX.out⟩
          · rw [h3] at HN2
            clear hrm hbt
            go_wp2_with fail
            refine (HN1.out _).mono ?_
            rintro e w' ⟨rfl, rfl⟩
            go_wp2_with fail
            refine (HN2.out _).mono ?_
            rintro e w' ⟨rfl, rfl⟩
            go_wp2
            go_ret
            rw [HR.out]
            exact ⟨rfl, HX.out⟩
        · have hrm := HRM0.out
          rw [if_neg (by simp [hbad, hbt])] at hrm
          have HRM := Lib.hid hrm
          obtain ⟨h3, h4⟩ := okN_split (by simpa using hbt)
          have t4 : decide ((8 : Int) < (tt.size : Int)) = false := decide_eq_false (by omega)
          rw [h3] at HN2
          clear hrm hbt h3 h4
          rcases findI_has d.now nm with ⟨hh, hfi⟩ | ⟨hh, kk, hkk, hfi, z1, z2⟩
          · have hrm := HRM.out
            rw [if_pos ⟨by omega, hh⟩] at hrm
            have HR := Lib.hid hrm
            have HF := Lib.hid (ref_find HVW.out nm)
            rw [hfi] at HF
            clear hrm
            go_wp2_with fail
            refine (HN1.out _).mono ?_
            rintro e w' ⟨rfl, rfl⟩
            go_wp2_with fail
            refine (HN2.out _).mono ?_
            rintro e w' ⟨rfl, rfl⟩
            go_wp2_with fail
            refine (HF.out).mono ?_
            rintro e w' ⟨rfl, rfl⟩
            go_wp2
            go_ret
            rw [HR.out]
            exact ⟨rfl, HX.out⟩
          · clear z1 z2
            have hrm := HRM.out
            rw [if_neg (by rw [hh]; simp : ¬ ((2 : Int) ≠ 0 ∧ DK.has d.now nm = false))] at hrm
            have HRM := Lib.hid hrm
            have HF := Lib.hid (ref_find HVW.out nm)
            rw [hfi] at HF
            have t0 : decide ((kk : Int) < 0) = false := decide_eq_false (by omega)
            clear hrm
            have hrm := HRM.out
            rw [if_neg (by omega), if_neg (by omega)] at hrm
            have HR := Lib.hid hrm
            clear hrm
            go_wp2_with fail
            refine (HN1.out _).mono ?_
            rintro e w' ⟨rfl, rfl⟩
            go_wp2_with fail
            refine (HN2.out _).mono ?_
            rintro e w' ⟨rfl, rfl⟩
            go_wp2_with fail
            refine (HF.out).mono ?_
            rintro e w' ⟨rfl, rfl⟩
            have q2 := cell_ext a2
            have f0 := cell_ext d0
            have f1 := cell_ext d1
            have f3 := cell_ext d3
            go_wp2
            refine wp_region_quiet_ext (by kernel_rfl) (by kernel_rfl) ?_
            repeat (go_big_quiet_step (first | fail))
            refine wpQuiet_nil ?_
            intro w5 g5
            have e0 := g5.cell d0
            go_wp2
            go_ret
            rw [HR.out]
            exact ⟨rfl, HX.out.trans g5⟩
      · have hrm := HRM.out
        rw [if_neg (by simp [hbad, k2])] at hrm
        have HRM := Lib.hid hrm
        clear hrm HRM0
        by_cases k0 : kd = 0
        · subst k0
          have HRM0 := HRM
          by_cases hat : at' < 0 ∨ ((DK.get d.now nm).size : Int) < at'
          · have hrm := HRM.out
            rw [if_neg (by simp : ¬ ((0 : Int) ≠ 0 ∧ DK.has d.now nm = false)), if_pos ⟨by omega, hat⟩] at hrm
            have HR := Lib.hid hrm
            by_cases hat0 : at' < 0
            · have t2 : decide (at' < 0) = true := decide_eq_true hat0
              clear hrm hat hat0
              go_wp2_with fail
              refine (HN1.out _).mono ?_
              rintro e w' ⟨rfl, rfl⟩
              have q2 := cell_ext a2
              have f0 := cell_ext d0
              have f1 := cell_ext d1
              have f3 := cell_ext d3
              go_wp2
              refine wp_region_quiet_ext (by kernel_rfl) (by kernel_rfl) ?_
              repeat (go_big_quiet_step (first | (go_at_call 59; exact calls_ext_same (HBY.out _))))
              refine wpQuiet_nil ?_
              intro w5 g5
              go_wp2
              go_ret
              rw [HR.out]
              exact ⟨rfl, HX.out.trans g5⟩
            · have t2 : decide (at' < 0) = false := decide_eq_false hat0
              have t3 : decide (((DK.get d.now nm).size : Int) < at') = true := decide_eq_true (by omega)
              generalize DK.get d.now nm = was at *
              clear hrm hat hat0
              go_wp2_with fail
              refine (HN1.out _).mono ?_
              rintro e w' ⟨rfl, rfl⟩
              have q2 := cell_ext a2
              have f0 := cell_ext d0
              have f1 := cell_ext d1
              have f3 := cell_ext d3
              go_wp2
              refine wp_region_quiet_ext (by kernel_rfl) (by kernel_rfl) ?_
              repeat (go_big_quiet_step (first | (go_at_call 59; exact calls_ext_same (HBY.out _))))
              refine wpQuiet_nil ?_
              intro w5 g5
              go_wp2
              go_ret
              rw [HR.out]
              exact ⟨rfl, HX.out.trans g5⟩
          · have hrm := HRM.out
            rw [if_neg (by simp : ¬ ((0 : Int) ≠ 0 ∧ DK.has d.now nm = false)), if_neg (fun h => hat h.2)] at hrm
            have HRM := Lib.hid hrm
            have t2 : decide (at' < 0) = false := decide_eq_false (by omega)
            have t3 : decide (((DK.get d.now nm).size : Int) < at') = false := decide_eq_false (by omega)
            clear hrm
            have hok : RStep.ok ⟨0, nm, tt, at', s⟩ d.now := rs_ok (fun _ => ⟨by simp only; omega, by simp only; omega⟩) ⟨by simp, by simp⟩ y3 hs
            have hok2 : DK.okS d.now (RStep.st ⟨0, nm, tt, at', s⟩) := by
              show DK.okS d.now (.write nm (Int.toNat at') s)
              exact ⟨by omega, by omega, by omega⟩
            have hbl := hs2 _ rfl rfl hok2
            have hrm := HRM.out
            simp only [true_and] at hrm
            rw [HFIT.out] at hrm
            have HRM := Lib.hid hrm
            have HDO := Lib.hid (fun (W' : World) (he : Ext W W') => ref_do (HVW.out.ext he) ⟨0, nm, tt, at', s⟩ hok)
            unfold rsCells at HDO
            simp only at HDO
            generalize DK.get d.now nm = was at *
            generalize DK.doS d.now (RStep.st ⟨0, nm, tt, at', s⟩) = L6 at *
            clear hrm hat hok hok2 hs hs2
            go_wp2_with fail
            refine (HN1.out _).mono ?_
            rintro e w' ⟨rfl, rfl⟩
            have q2 := cell_ext a2
            have f0 := cell_ext d0
            have f1 := cell_ext d1
            have f3 := cell_ext d3
            go_wp2
            refine wp_region_quiet_ext (by kernel_rfl) (by kernel_rfl) ?_
            repeat (go_big_quiet_step (first | (go_at_call 59; exact calls_ext_same (HBY.out _))))
            refine wpQuiet_nil ?_
            intro w5 g5
            have k0 := g5.cell a0
            have k2 := g5.cell a2
            have e0 := g5.cell d0
            have e1 := g5.cell d1
            have e2 := g5.cell d2
            have e3 := g5.cell d3
            have e4 := g5.cell d4
            have HG5 := Lib.hid g5
            clear a0 a2 d0 d1 d2 d3 d4 q2 f0 f1 f3 g5
            go_wp2_with fail
            refine (HDO.out _ HG5.out).mono ?_
            rintro e w6 ⟨v6, rfl, hv6, g6, _⟩
            have HV6 := Lib.hid hv6
            have HG6 := Lib.hid (HG5.out.trans g6)
            have HB6 := Lib.hid (fun (p : ExtOf w6) => ref_blocks (hv6.ext p.ext) hbl)
            have p0 := cell_ext (g6.cell k0)
            obtain ⟨q6, c6, rfl, hl6, _⟩ := hv6
            generalize DK.blocks L6 = z at *
            generalize L6.length = m6 at *
            clear g6 k0 k2 e0 e1 e2 e3 e4
            by_cases hm : 16 < m6
            · have t5 : decide ((16 : Int) < (m6 : Int)) = true := decide_eq_true (by omega)
              have hrm := HRM.out
              rw [decide_eq_false (by omega : ¬ m6 ≤ 16)] at hrm
              simp only [Bool.false_and, if_true] at hrm
              have HR := Lib.hid hrm
              clear hrm
              go_wp2
              refine wp_region_quiet_ext (by kernel_rfl) (by kernel_rfl) ?_
              repeat (go_big_quiet_step (first | fail))
              refine wpQuiet_nil ?_
              intro w7 g7
              go_wp2
              go_ret
              rw [HR.out]
              exact ⟨rfl, HX.out.trans (HG6.out.trans g7)⟩
            · have t5 : decide ((16 : Int) < (m6 : Int)) = false := decide_eq_false (by omega)
              have hrm := HRM.out
              rw [decide_eq_true (by omega : m6 ≤ 16), Bool.true_and] at hrm
              by_cases hz : (z : Int) ≤ room
              · have t6 : decide (room < (z : Int)) = false := decide_eq_false (by omega)
                rw [decide_eq_true hz] at hrm
                simp only [Bool.true_eq_false, if_false] at hrm
                have HR := Lib.hid hrm
                clear hrm
                go_wp2
                refine wp_region_quiet_ext (by kernel_rfl) (by kernel_rfl) ?_
                repeat (go_big_quiet_step (first | (go_at_call 43; exact calls_ext (HB6.out _))))
                refine wpQuiet_nil ?_
                intro w7 g7
                go_wp2
                go_ret
                rw [HR.out]
                exact ⟨rfl, HX.out.trans (HG6.out.trans g7)⟩
              · have t6 : decide (room < (z : Int)) = true := decide_eq_true (by omega)
                rw [decide_eq_false hz] at hrm
                simp only [if_true] at hrm
                have HR := Lib.hid hrm
                clear hrm
                go_wp2
                refine wp_region_quiet_ext (by kernel_rfl) (by kernel_rfl) ?_
                repeat (go_big_quiet_step (first | (go_at_call 43; exact calls_ext (HB6.out _))))
                refine wpQuiet_nil ?_
                intro w7 g7
                go_wp2
                go_ret
                rw [HR.out]
                exact ⟨rfl, HX.out.trans (HG6.out.trans g7)⟩
        · by_cases k1 : kd = 1
          · subst k1
            rcases findI_has d.now nm with ⟨hh, hfi⟩ | ⟨hh, kk, hkk, hfi, z1, z2⟩
            · have hrm := HRM.out
              rw [if_pos ⟨by omega, hh⟩] at hrm
              have HR := Lib.hid hrm
              have HF := Lib.hid (ref_find HVW.out nm)
              rw [hfi] at HF
              clear hrm
              go_wp2_with fail
              refine (HN1.out _).mono ?_
              rintro e w' ⟨rfl, rfl⟩
              go_wp2_with fail
              refine (HF.out).mono ?_
              rintro e w' ⟨rfl, rfl⟩
              go_wp2
              go_ret
              rw [HR.out]
              exact ⟨rfl, HX.out⟩
            · clear z1 z2
              have hrm := HRM.out
              rw [if_neg (by rw [hh]; simp : ¬ ((1 : Int) ≠ 0 ∧ DK.has d.now nm = false))] at hrm
              have HRM := Lib.hid hrm
              have HF := Lib.hid (ref_find HVW.out nm)
              rw [hfi] at HF
              have t0 : decide ((kk : Int) < 0) = false := decide_eq_false (by omega)
              clear hrm
              by_cases hat : at' < 0 ∨ ((DK.get d.now nm).size : Int) < at'
              · have hrm := HRM.out
                rw [if_pos ⟨by omega, hat⟩] at hrm
                have HR := Lib.hid hrm
                by_cases hat0 : at' < 0
                · have t2 : decide (at' < 0) = true := decide_eq_true hat0
                  clear hrm hat hat0
                  go_wp2_with fail
                  refine (HN1.out _).mono ?_
                  rintro e w' ⟨rfl, rfl⟩
                  go_wp2_with fail
                  refine (HF.out).mono ?_
                  rintro e w' ⟨rfl, rfl⟩
                  have q2 := cell_ext a2
                  have f0 := cell_ext d0
                  have f1 := cell_ext d1
                  have f3 := cell_ext d3
                  go_wp2
                  refine wp_region_quiet_ext (by kernel_rfl) (by kernel_rfl) ?_
                  repeat (go_big_quiet_step (first | (go_at_call 59; exact calls_ext_same (HBY.out _))))
                  refine wpQuiet_nil ?_
                  intro w5 g5
                  go_wp2
                  go_ret
                  rw [HR.out]
                  exact ⟨rfl, HX.out.trans g5⟩
                · have t2 : decide (at' < 0) = false := decide_eq_false hat0
                  have t3 : decide (((DK.get d.now nm).size : Int) < at') = true := decide_eq_true (by omega)
                  generalize DK.get d.now nm = was at *
                  clear hrm hat hat0
                  go_wp2_with fail
                  refine (HN1.out _).mono ?_
                  rintro e w' ⟨rfl, rfl⟩
                  go_wp2_with fail
                  refine (HF.out).mono ?_
                  rintro e w' ⟨rfl, rfl⟩
                  have q2 := cell_ext a2
                  have f0 := cell_ext d0
                  have f1 := cell_ext d1
                  have f3 := cell_ext d3
                  go_wp2
                  refine wp_region_quiet_ext (by kernel_rfl) (by kernel_rfl) ?_
                  repeat (go_big_quiet_step (first | (go_at_call 59; exact calls_ext_same (HBY.out _))))
                  refine wpQuiet_nil ?_
                  intro w5 g5
                  go_wp2
                  go_ret
                  rw [HR.out]
                  exact ⟨rfl, HX.out.trans g5⟩
              · have hrm := HRM.out
                rw [if_neg (fun h => hat h.2)] at hrm
                have HRM := Lib.hid hrm
                have t2 : decide (at' < 0) = false := decide_eq_false (by omega)
                have t3 : decide (((DK.get d.now nm).size : Int) < at') = false := decide_eq_false (by omega)
                clear hrm
                have hrm := HRM.out
                rw [if_neg (by simp)] at hrm
                have HR := Lib.hid hrm
                generalize DK.get d.now nm = was at *
                clear hrm hat
                go_wp2_with fail
                refine (HN1.out _).mono ?_
                rintro e w' ⟨rfl, rfl⟩
                go_wp2_with fail
                refine (HF.out).mono ?_
                rintro e w' ⟨rfl, rfl⟩
                have q2 := cell_ext a2
                have f0 := cell_ext d0
                have f1 := cell_ext d1
                have f3 := cell_ext d3
                go_wp2
                refine wp_region_quiet_ext (by kernel_rfl) (by kernel_rfl) ?_
                repeat (go_big_quiet_step (first | (go_at_call 59; exact calls_ext_same (HBY.out _))))
                refine wpQuiet_nil ?_
                intro w5 g5
                have e0 := g5.cell d0
                go_wp2
                go_ret
                rw [HR.out]
                exact ⟨rfl, HX.out.trans g5⟩
          · obtain rfl : kd = 3 := by omega
            rcases findI_has d.now nm with ⟨hh, hfi⟩ | ⟨hh, kk, hkk, hfi, z1, z2⟩
            · have hrm := HRM.out
              rw [if_pos ⟨by omega, hh⟩] at hrm
              have HR := Lib.hid hrm
              have HF := Lib.hid (ref_find HVW.out nm)
              rw [hfi] at HF
              clear hrm
              go_wp2_with fail
              refine (HN1.out _).mono ?_
              rintro e w' ⟨rfl, rfl⟩
              go_wp2_with fail
              refine (HF.out).mono ?_
              rintro e w' ⟨rfl, rfl⟩
              go_wp2
              go_ret
              rw [HR.out]
              exact ⟨rfl, HX.out⟩
            · clear z1 z2
              have hrm := HRM.out
              rw [if_neg (by rw [hh]; simp : ¬ ((3 : Int) ≠ 0 ∧ DK.has d.now nm = false))] at hrm
              have HRM := Lib.hid hrm
              have HF := Lib.hid (ref_find HVW.out nm)
              rw [hfi] at HF
              have t0 : decide ((kk : Int) < 0) = false := decide_eq_false (by omega)
              clear hrm
              have hrm := HRM.out
              rw [if_neg (by omega), if_neg (by omega)] at hrm
              have HR := Lib.hid hrm
              clear hrm
              go_wp2_with fail
              refine (HN1.out _).mono ?_
              rintro e w' ⟨rfl, rfl⟩
              go_wp2_with fail
              refine (HF.out).mono ?_
              rintro e w' ⟨rfl, rfl⟩
              have q2 := cell_ext a2
              have f0 := cell_ext d0
              have f1 := cell_ext d1
              have f3 := cell_ext d3
              go_wp2
              refine wp_region_quiet_ext (by kernel_rfl) (by kernel_rfl) ?_
              repeat (go_big_quiet_step (first | fail))
              refine wpQuiet_nil ?_
              intro w5 g5
              have e0 := g5.cell d0
              go_wp2
              go_ret
              rw [HR.out]
              exact ⟨rfl, HX.out.trans g5⟩
end Go.Proofs.Ytfegfbhchdfibaa
