/- The document's Check of edges. -/
import Derived.Test.YtcckdogcjjimoaaGraphHas
namespace Go.Proofs.Ytcckdogcjjimoaa
open Go.RowKit

theorem any_bad {n : Int} {l : List GR.Ed} {d : GR.Ed} (h : d ∈ l) (hb : GR.badI n d = true) : l.any (GR.badI n) = true := List.any_eq_true.2 ⟨d, h, hb⟩

set_option maxRecDepth 100000 in
set_option maxHeartbeats 2000000 in
theorem ref_check_some (b off n c : Nat) (l : List GR.Ed) (m : Int) (w : World) (hn : l.length = n) (hm : n ≤ 70368744177664) (hl : EdsAt w b off l) (hm1 : 1 ≤ m) (hm2 : m ≤ 64) :
    Calls Try.prog 7 #[.int .i64 m, .slice (some ⟨b, off, none⟩) n c] w fun e w' => e = .returned (.int .i64 (if l.any (GR.badI m) then 11 else 0)) ∧ Ext w w' := by
  obtain ⟨r, hr⟩ : ∃ r, l.any (GR.badI m) = r := ⟨_, rfl⟩
  rw [hr]
  have HL := Lib.hid hl
  have HN := Lib.hid hn
  have HR := Lib.hid hr
  clear hl hn hr
  go_enter Try.func7, Try.ntmps7
  go_wp2
  go_loopw [5] (fun i wr => ∃ (k : Nat), k ≤ n ∧ i = .int .i64 k ∧ (l.take k).any (GR.badI m) = false ∧ Ext w wr) (fun i _ => n - (intOf i).toNat)
  case atStart => exact ⟨0, by omega, rfl, rfl, Ext.refl _⟩
  case round =>
    obtain ⟨k, hk, rfl, hs, hx⟩ := hrel
    by_cases hlt : k < n
    · have hkl : k < l.length := by rw [HN.out]; exact hlt
      have a1 := hx.cell (HL.out k hkl).1
      have a2 := hx.cell (HL.out k hkl).2
      have hnx := take_next l k hkl
      have hmem : GR.badI m l[k] = true → l.any (GR.badI m) = true := any_bad (List.getElem_mem hkl)
      have hsn : (l.take (k + 1)).any (GR.badI m) = ((l.take k).any (GR.badI m) || GR.badI m l[k]) := by rw [hnx, List.any_append, List.any_cons, List.any_nil, Bool.or_false]
      rw [hs] at hsn
      generalize l[k] = d at *
      rw [HR.out] at hmem
      have HSN := Lib.hid hsn
      have HMEM := Lib.hid hmem
      clear hsn hmem hs hnx
      have hz : d.1 < 0 ∨ (0 ≤ d.1 ∧ m ≤ d.1) ∨ (0 ≤ d.1 ∧ d.1 < m ∧ d.2 < 0) ∨ (0 ≤ d.1 ∧ d.1 < m ∧ 0 ≤ d.2 ∧ m ≤ d.2) ∨ (0 ≤ d.1 ∧ d.1 < m ∧ 0 ≤ d.2 ∧ d.2 < m ∧ d.1 = d.2) ∨ (0 ≤ d.1 ∧ d.1 < m ∧ 0 ≤ d.2 ∧ d.2 < m ∧ d.1 ≠ d.2) := by omega
      rcases hz with hz | hz | hz | hz | hz | hz
      · have hrt : r = true := HMEM.out (badI_true (.inl hz))
        have f1 : decide (d.1 < 0) = true := decide_eq_true (by omega)
        clear hz
        subst hrt
        go_wp2
        refine wp_region_noPanic ?_
        go_quiet (fail)
        refine NoPanic.normal ?_
        go_wp2
        go_ret
        exact ⟨rfl, hx.trans ((Ext.refl _).drewN _)⟩
      · have hrt : r = true := HMEM.out (badI_true (.inr (.inl hz.2)))
        have f1 : decide (d.1 < 0) = false := decide_eq_false (by omega)
        have f2 : decide (m ≤ d.1) = true := decide_eq_true (by omega)
        clear hz
        subst hrt
        go_wp2
        refine wp_region_noPanic ?_
        go_quiet (fail)
        refine NoPanic.normal ?_
        go_wp2
        go_ret
        exact ⟨rfl, hx.trans ((Ext.refl _).drewN _)⟩
      · have hrt : r = true := HMEM.out (badI_true (.inr (.inr (.inl hz.2.2))))
        have f1 : decide (d.1 < 0) = false := decide_eq_false (by omega)
        have f2 : decide (m ≤ d.1) = false := decide_eq_false (by omega)
        have f3 : decide (d.2 < 0) = true := decide_eq_true (by omega)
        clear hz
        subst hrt
        go_wp2
        refine wp_region_noPanic ?_
        go_quiet (fail)
        refine NoPanic.normal ?_
        go_wp2
        go_ret
        exact ⟨rfl, hx.trans ((Ext.refl _).drewN _)⟩
      · have hrt : r = true := HMEM.out (badI_true (.inr (.inr (.inr (.inl hz.2.2.2)))))
        have f1 : decide (d.1 < 0) = false := decide_eq_false (by omega)
        have f2 : decide (m ≤ d.1) = false := decide_eq_false (by omega)
        have f3 : decide (d.2 < 0) = false := decide_eq_false (by omega)
        have f4 : decide (m ≤ d.2) = true := decide_eq_true (by omega)
        clear hz
        subst hrt
        go_wp2
        refine wp_region_noPanic ?_
        go_quiet (fail)
        refine NoPanic.normal ?_
        go_wp2
        go_ret
        exact ⟨rfl, hx.trans ((Ext.refl _).drewN _)⟩
      · have hrt : r = true := HMEM.out (badI_true (.inr (.inr (.inr (.inr hz.2.2.2.2)))))
        have f1 : decide (d.1 < 0) = false := decide_eq_false (by omega)
        have f2 : decide (m ≤ d.1) = false := decide_eq_false (by omega)
        have f3 : decide (d.2 < 0) = false := decide_eq_false (by omega)
        have f4 : decide (m ≤ d.2) = false := decide_eq_false (by omega)
        have f5 : (d.1 == d.2) = true := beq_iff_eq.2 hz.2.2.2.2
        clear hz
        subst hrt
        go_wp2
        refine wp_region_noPanic ?_
        go_quiet (fail)
        refine NoPanic.normal ?_
        go_wp2
        go_ret
        exact ⟨rfl, hx.trans ((Ext.refl _).drewN _)⟩
      · have hbf : GR.badI m d = false := decide_eq_false (by omega)
        have f1 : decide (d.1 < 0) = false := decide_eq_false (by omega)
        have f2 : decide (m ≤ d.1) = false := decide_eq_false (by omega)
        have f3 : decide (d.2 < 0) = false := decide_eq_false (by omega)
        have f4 : decide (m ≤ d.2) = false := decide_eq_false (by omega)
        have f5 : (d.1 == d.2) = false := beq_eq_false_iff_ne.2 hz.2.2.2.2
        have HBF := Lib.hid hbf
        clear hz hbf
        go_wp2
        refine wp_region_noPanic ?_
        go_quiet (fail)
        refine NoPanic.normal ?_
        go_wp2
        go_roundw
        case rel => exact ⟨k + 1, by omega, by go_num, by rw [HSN.out, HBF.out]; rfl, hx.trans ((Ext.refl _).drewN _)⟩
        case measure => simp [intOf]; omega
    · obtain rfl : k = n := by omega
      rw [List.take_of_length_le (by rw [HN.out]; omega), HR.out] at hs
      subst hs
      go_wp2
      go_ret
      exact ⟨rfl, hx⟩

set_option maxRecDepth 100000 in
theorem ref_check_nil (b : Option Addr) (c : Nat) (m : Int) (w : World) (hm1 : 1 ≤ m) (hm2 : m ≤ 64) :
    Calls Try.prog 7 #[.int .i64 m, .slice b 0 c] w fun e w' => e = .returned (.int .i64 0) ∧ Ext w w' := by
  go_enter Try.func7, Try.ntmps7
  go_wp2
  refine wp_loop_rounds 1 ?_
  rw [rounds_succ]
  go_wp2
  go_ret
  exact ⟨rfl, Ext.refl _⟩

set_option maxRecDepth 100000 in
theorem ref_check_count (v : Value) (m : Int) (w : World) (hm : m < 1 ∨ 64 < m) :
    Calls Try.prog 7 #[.int .i64 m, v] w fun e w' => e = .returned (.int .i64 12) ∧ Ext w w' := by
  rcases hm with hm | hm
  · go_enter Try.func7, Try.ntmps7
    go_wp2
    go_ret
    exact ⟨rfl, Ext.refl _⟩
  · have h1 : 1 ≤ m := by omega
    go_enter Try.func7, Try.ntmps7
    go_wp2
    go_ret
    exact ⟨rfl, Ext.refl _⟩

/-- What the document's Check answers. -/
theorem ref_check (v : Value) (l : List GR.Ed) (m : Int) (w : World) (h : EdsV w v l) :
    Calls Try.prog 7 #[.int .i64 m, v] w fun e w' => e = .returned (.int .i64 (GR.checkG m l : Nat)) ∧ Ext w w' := by
  unfold GR.checkG
  by_cases hm : m < 1 ∨ 64 < m
  · rw [if_pos hm]
    exact ref_check_count v m w hm
  · rw [if_neg hm]
    obtain ⟨a, c, rfl, h2, h0 | ⟨b, o, rfl, hs⟩⟩ := h
    · obtain rfl := List.length_eq_zero_iff.1 h0
      exact ref_check_nil a c m w (by omega) (by omega)
    · refine (ref_check_some b o l.length c l m w rfl h2 hs (by omega) (by omega)).mono ?_
      rintro e w' ⟨rfl, g⟩
      refine ⟨?_, g⟩
      split <;> rfl
end Go.Proofs.Ytcckdogcjjimoaa
