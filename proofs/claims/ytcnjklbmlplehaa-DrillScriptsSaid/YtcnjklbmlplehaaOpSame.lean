/- What the document's Same of scripts answers. -/
import Derived.Test.YtcnjklbmlplehaaDrillAwake
import Derived.Deep.RegionHeld3
namespace Go.Proofs.Ytcnjklbmlplehaa
open Go.RowKit

set_option maxRecDepth 100000 in
set_option maxHeartbeats 2000000 in
theorem ref_same34 (p1 p2 : Option Addr) (m c1 c2 : Nat) (l : List OpV) (w : World) (hl : l.length = m) (h1 : m = 0 ∨ ∃ b off, p1 = some ⟨b, off, none⟩ ∧ OpsAt w b off l) (h2 : m = 0 ∨ ∃ b off, p2 = some ⟨b, off, none⟩ ∧ OpsAt w b off l) (hm : m ≤ 100000) :
    Calls Try.prog 14 #[.slice p1 m c1, .slice p2 m c2] w fun e w' => e = .returned (.bool true) ∧ Ext w w' := by
  have HL := Lib.hid hl
  have H1 := Lib.hid h1
  have H2 := Lib.hid h2
  clear hl h1 h2
  go_enter Try.func14, Try.ntmps14
  go_wp2
  go_loopw [5] (fun i W => ∃ (k : Nat), k ≤ m ∧ i = .int .i64 k ∧ Ext w W) (fun i _ => m - (intOf i).toNat)
  case atStart => exact ⟨0, by omega, rfl, Ext.refl _⟩
  case round =>
    obtain ⟨k, hk, rfl, hx⟩ := hrel
    by_cases hlt : k < m
    · have hkl : k < l.length := by rw [HL.out]; exact hlt
      obtain ⟨b, off, rfl, hat⟩ : ∃ b off, p1 = some ⟨b, off, none⟩ ∧ OpsAt w b off l := by
        rcases H1.out with h | h
        · omega
        · exact h
      obtain ⟨b', off', rfl, hat'⟩ : ∃ b off, p2 = some ⟨b, off, none⟩ ∧ OpsAt w b off l := by
        rcases H2.out with h | h
        · omega
        · exact h
      obtain ⟨⟨y0, y1, y2, y3, y4, y5, y6, y7⟩, hy⟩ : ∃ y, l[k] = y := ⟨_, rfl⟩
      obtain ⟨c0, c1, c2, c3, c4, c5, c6, c7⟩ := (hat.ext hx).cs hkl hy
      obtain ⟨d0, d1, d2, d3, d4, d5, d6, d7⟩ := (hat'.ext hx).cs hkl hy
      have HX := Lib.hid hx
      clear hat hat' hy hx
      go_wp2_with fail
      refine wp_region_noPanic ?_
      go_region
      all_goals
        refine NoPanic.normal ?_
        go_wp2_with fail
        go_roundw
        case rel => exact ⟨k + 1, by omega, by go_num, HX.out.drew⟩
        case measure => simp [intOf]; omega
    · obtain rfl : k = m := by omega
      have HX := Lib.hid hx
      clear hx
      go_wp2
      go_ret
      exact ⟨rfl, HX.out⟩
end Go.Proofs.Ytcnjklbmlplehaa
