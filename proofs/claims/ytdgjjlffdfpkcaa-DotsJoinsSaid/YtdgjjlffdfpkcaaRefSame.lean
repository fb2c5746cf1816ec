/- Whether two lists of dots are the same: what the document's Same answers. -/
import Derived.Test.YtdgjjlffdfpkcaaRefJoin
import Derived.Deep.RegionHeld3
namespace Go.Proofs.Ytdgjjlffdfpkcaa
open Go.RowKit

set_option maxRecDepth 100000 in
set_option maxHeartbeats 2000000 in
theorem ref_same_some (b1 o1 c1 b2 o2 c2 n : Nat) (x y : List Dot) (w : World) (hx : x.length = n) (hy : y.length = n) (hn : n ≤ 70368744177664) (h1 : DotsAt w b1 o1 x) (h2 : DotsAt w b2 o2 y) :
    Calls Try.prog 40 #[.slice (some ⟨b1, o1, none⟩) n c1, .slice (some ⟨b2, o2, none⟩) n c2] w fun e w' => e = .returned (.bool (decide (x = y))) ∧ Ext w w' := by
  have H1 : Hid (DotsAt w b1 o1 x) := h1
  have H2 : Hid (DotsAt w b2 o2 y) := h2
  have HX := Lib.hid hx
  have HY := Lib.hid hy
  clear h1 h2 hx hy
  go_enter Try.func40, Try.ntmps40
  go_wp2
  go_loopw [5] (fun i wr => ∃ (k : Nat), k ≤ n ∧ i = .int .i64 k ∧ x.take k = y.take k ∧ Ext w wr) (fun i _ => n - (intOf i).toNat)
  case atStart => exact ⟨0, by omega, rfl, by simp, Ext.refl _⟩
  case round =>
    obtain ⟨k, hk, rfl, hs, he⟩ := hrel
    by_cases hlt : k < n
    · have hkx : k < x.length := by rw [HX.out]; exact hlt
      have hky : k < y.length := by rw [HY.out]; exact hlt
      have a1 := he.cell (H1.out k hkx).1
      have a2 := he.cell (H1.out k hkx).2
      have a3 := he.cell (H2.out k hky).1
      have a4 := he.cell (H2.out k hky).2
      have hnx := take_next x k hkx
      have hny := take_next y k hky
      have hne : x[k] ≠ y[k] → x ≠ y := fun h e => h (by subst e; rfl)
      generalize x[k] = d at *
      generalize y[k] = f at *
      obtain ⟨d1, d2⟩ := d
      obtain ⟨f1, f2⟩ := f
      simp only at a1 a2 a3 a4
      have HS := Lib.hid hs
      have HNX := Lib.hid hnx
      have HNY := Lib.hid hny
      have HNE := Lib.hid hne
      clear hs hnx hny hne
      by_cases e1 : d1 = f1
      · by_cases e2 : d2 = f2
        · subst e1 e2
          go_wp2
          refine wp_region_noPanic ?_
          go_region
          refine NoPanic.normal ?_
          go_wp2
          go_roundw
          case rel => exact ⟨k + 1, by omega, by go_num, by rw [HNX.out, HNY.out, HS.out], he.drewN 1⟩
          case measure => simp [intOf]; omega
        · have hd : decide (x = y) = false := decide_eq_false (HNE.out fun h => e2 (by cases h; rfl))
          have HDD := Lib.hid hd
          clear hd
          go_wp2
          refine wp_region_noPanic ?_
          go_region
          refine NoPanic.normal ?_
          go_wp2
          go_ret
          exact ⟨by first | (rw [HDD.out]; rfl) | rw [HDD.out], he.drewN 1⟩
      · have hd : decide (x = y) = false := decide_eq_false (HNE.out fun h => e1 (by cases h; rfl))
        have HDD := Lib.hid hd
        clear hd
        go_wp2
        refine wp_region_noPanic ?_
        go_region
        refine NoPanic.normal ?_
        go_wp2
        go_ret
        exact ⟨by first | (rw [HDD.out]; rfl) | rw [HDD.out], he.drewN 1⟩
    · obtain rfl : k = n := by omega
      rw [List.take_of_length_le (by rw [HX.out]; omega), List.take_of_length_le (by rw [HY.out]; omega)] at hs
      have HDD := Lib.hid (decide_eq_true hs)
      clear hs
      go_wp2
      go_ret
      exact ⟨by first | (rw [HDD.out]; rfl) | rw [HDD.out], he⟩

set_option maxRecDepth 100000 in
theorem ref_same_nil (p q : Option Addr) (c1 c2 : Nat) (w : World) :
    Calls Try.prog 40 #[.slice p 0 c1, .slice q 0 c2] w fun e w' => e = .returned (.bool true) ∧ Ext w w' := by
  go_enter Try.func40, Try.ntmps40
  go_wp2
  refine wp_loop_rounds 1 ?_
  rw [rounds_succ]
  go_wp2
  go_ret
  exact ⟨rfl, Ext.refl _⟩

set_option maxRecDepth 100000 in
theorem ref_same_no (p q : Option Addr) (n m c1 c2 : Nat) (w : World) (h : n ≠ m) :
    Calls Try.prog 40 #[.slice p n c1, .slice q m c2] w fun e w' => e = .returned (.bool false) ∧ Ext w w' := by
  have hb : ((n : Int) != (m : Int)) = true := by rw [bne_iff_ne]; omega
  go_enter Try.func40, Try.ntmps40
  go_wp2
  go_ret
  exact ⟨rfl, Ext.refl _⟩

theorem ref_same (u v : Value) (x y : List Dot) (w : World) (hu : DotsV w u x) (hv : DotsV w v y) :
    Calls Try.prog 40 #[u, v] w fun e w' => e = .returned (.bool (decide (x = y))) ∧ Ext w w' := by
  obtain ⟨p, c, rfl, _, _, a1, a2, _, a4⟩ := hu
  obtain ⟨q, d, rfl, _, _, b1, b2, _, b4⟩ := hv
  by_cases hl : x.length = y.length
  · rcases a4 with a4 | ⟨b, o, rfl, hx⟩
    · obtain rfl := List.length_eq_zero_iff.1 a4
      obtain rfl := List.length_eq_zero_iff.1 (hl.symm.trans rfl)
      exact ref_same_nil p q c d w
    · rcases b4 with b4 | ⟨b', o', rfl, hy⟩
      · obtain rfl := List.length_eq_zero_iff.1 b4
        obtain rfl := List.length_eq_zero_iff.1 (hl.trans rfl)
        exact ref_same_nil _ q c d w
      · rw [← hl]
        exact ref_same_some b o c b' o' d x.length x y w rfl hl.symm a2 hx hy
  · rw [decide_eq_false fun e => hl (by rw [e])]
    exact ref_same_no p q _ _ c d w hl

end Go.Proofs.Ytdgjjlffdfpkcaa
