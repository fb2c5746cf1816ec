/- What end answers: the place of the first byte below 128, among the first five; -1. -/
import Derived.Test.YthkccaifabpleaaChecked
import Derived.Test.YthkccaifabpleaaMem
import Derived.Test.YthkccaifabpleaaCountPlain
namespace Go.Proofs.Ythkccaifabpleaa
open Go.RowKit

theorem byte_at (s : ByteArray) (k : Nat) (h : k < s.size) : s.data.toList[k]? = some s[k] := by rw [Array.getElem?_toList]; exact Array.getElem?_eq_getElem _

set_option maxRecDepth 100000 in
theorem end_at (s : ByteArray) (k0 : Nat) (w : World) (hs : s.size ≤ maxLen) (hk : k0 < s.size) (h : Count.ends s.data.toList k0) :
    Calls Try.prog 48 #[.string s] w fun e w' => e = .returned (.int .i64 k0) ∧ w = w' := by
  unfold maxLen at hs
  obtain ⟨h5, hmore, b, hb, hb128⟩ := h
  rw [byte_at s k0 hk] at hb
  cases hb
  have HM : Hid (Count.more s.data.toList k0) := hmore
  have hmin : ((if (5 : Int) < (s.size : Int) then (5 : Int) else (s.size : Int))) = ((min s.size 5 : Nat) : Int) := by split <;> omega
  go_enter Try.func48, Try.ntmps48
  go_wp2_with fail
  clear hmin
  have hm1 : min s.size 5 ≤ s.size := by omega
  have hm2 : k0 < min s.size 5 := by omega
  generalize min s.size 5 = m at hm1 hm2 ⊢
  go_loop [7] (fun i => ∃ j : Nat, j ≤ k0 ∧ i = .int .i64 j) (fun i => m - (intOf i).toNat)
  case atStart => exact ⟨0, by omega, rfl⟩
  case round =>
    obtain ⟨j, hj, rfl⟩ := hrel
    have hjs : j < s.size := by omega
    by_cases hlt : j < k0
    · have hbj := HM.out j s[j] hlt (byte_at s j hjs)
      have HB := Lib.hid hbj
      clear hbj
      have H8 := Lib.hid hb128
      clear hb128
      go_wp2
      · have hlt' : (s[j].toNat : Int) < 128 := by assumption
        have := HB.out
        omega
      · go_round
        case rel => exact ⟨j + 1, by omega, by go_num⟩
        case measure => simp [intOf]; omega
    · obtain rfl : j = k0 := by omega
      have H8 := Lib.hid hb128
      clear hb128
      go_wp2
      · go_ret
        exact ⟨rfl, rfl⟩
      · have hge : (128 : Int) ≤ (s[j].toNat : Int) := by assumption
        have := H8.out
        omega

set_option maxRecDepth 100000 in
theorem end_none (s : ByteArray) (w : World) (hs : s.size ≤ maxLen) (h : Count.more s.data.toList (min s.data.toList.length 5)) :
    Calls Try.prog 48 #[.string s] w fun e w' => e = .returned (.int .i64 (-1)) ∧ w = w' := by
  unfold maxLen at hs
  have HM : Hid (Count.more s.data.toList (min s.size 5)) := h
  clear h
  have hmin : ((if (5 : Int) < (s.size : Int) then (5 : Int) else (s.size : Int))) = ((min s.size 5 : Nat) : Int) := by split <;> omega
  go_enter Try.func48, Try.ntmps48
  go_wp2_with fail
  clear hmin
  have hm1 : min s.size 5 ≤ s.size := by omega
  generalize min s.size 5 = m at hm1 HM ⊢
  go_loop [7] (fun i => ∃ j : Nat, j ≤ m ∧ i = .int .i64 j) (fun i => m - (intOf i).toNat)
  case atStart => exact ⟨0, by omega, rfl⟩
  case round =>
    obtain ⟨j, hj, rfl⟩ := hrel
    by_cases hlt : j < m
    · have hjs : j < s.size := by omega
      have hbj := HM.out j s[j] hlt (byte_at s j hjs)
      have HB := Lib.hid hbj
      clear hbj
      go_wp2
      · have hlt' : (s[j].toNat : Int) < 128 := by assumption
        have := HB.out
        omega
      · go_round
        case rel => exact ⟨j + 1, by omega, by go_num⟩
        case measure => simp [intOf]; omega
    · go_wp2
      go_ret
      exact ⟨rfl, rfl⟩

end Go.Proofs.Ythkccaifabpleaa
