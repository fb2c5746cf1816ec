/- The walks of CountPuts, CountTakes and CountGrows. -/
import Derived.Test.YtjpnicocihpocaaCountAwake
namespace Go.Proofs.Ytjpnicocihpocaa
open Go.RowKit

set_option maxRecDepth 100000 in
set_option maxHeartbeats 400000 in
theorem countPuts_walk (n : Int) (w : World) :
    Calls Try.prog 3 #[.int .i64 n] w fun e w' => e = .returned (.bool true) ∧ Ext w w' := by
  generalize hl : Count.putL n = l
  have HL := Lib.hid hl
  clear hl
  go_enter Try.func3, Try.ntmps3
  go_wp2_with fail
  refine (put_at _ l HL.out _).mono ?_
  rintro e w1 ⟨rfl, h1⟩
  go_wp2_with fail
  refine (refPut_any n _).mono ?_
  rintro e w2 ⟨rfl, h2⟩
  rw [HL.out]
  go_wp2_with fail
  refine (size_at _ l.length (by rw [HL.out]) _).mono ?_
  rintro e w3 ⟨rfl, h3⟩
  go_wp2_with fail
  refine (refPut_any n _).mono ?_
  rintro e w4 ⟨rfl, h4⟩
  rw [HL.out]
  go_wp2_with fail
  refine (count_awake _).mono ?_
  rintro e w5 ⟨rfl, h5⟩
  go_wp2
  go_ret
  exact ⟨rfl, (((h1.trans h2).trans h3).trans h4).trans h5⟩

set_option maxRecDepth 100000 in
set_option maxHeartbeats 400000 in
theorem countTakes_walk (s : ByteArray) (w : World) (hs : s.size ≤ maxLen) :
    Calls Try.prog 4 #[.string s] w fun e w' => e = .returned (.bool true) ∧ Ext w w' := by
  obtain ⟨a, b, c, hl⟩ : ∃ a b c, Count.takeL s.data.toList = (a, b, c) := ⟨_, _, _, rfl⟩
  have HL := Lib.hid hl
  clear hl
  go_enter Try.func4, Try.ntmps4
  go_wp2_with fail
  refine (take_at _ a b c HL.out _ hs).mono ?_
  rintro e w1 ⟨rfl, h1⟩
  go_wp2_with fail
  refine (refTake_at _ a b c HL.out _ hs).mono ?_
  rintro e w2 ⟨rfl, h2⟩
  go_wp2_with fail
  refine (count_awake _).mono ?_
  rintro e w5 ⟨rfl, h5⟩
  go_wp2
  go_ret
  exact ⟨rfl, (h1.trans h2).trans h5⟩

set_option maxRecDepth 100000 in
set_option maxHeartbeats 400000 in
theorem countGrows_no (a b : Int) (w : World) (h : a < 0 ∨ (0 ≤ a ∧ b < a) ∨ (0 ≤ a ∧ a ≤ b ∧ 1073741824 < b)) :
    Calls Try.prog 7 #[.int .i64 a, .int .i64 b] w fun e w' => e = .returned (.bool true) ∧ Ext w w' := by
  rcases h with h | ⟨h, h2⟩ | ⟨h, h2, h3⟩
  all_goals
    go_enter Try.func7, Try.ntmps7
    go_wp2_with fail
    refine (count_awake _).mono ?_
    rintro e w5 ⟨rfl, h5⟩
    go_wp2
    go_ret
    exact ⟨rfl, h5⟩

set_option maxRecDepth 100000 in
set_option maxHeartbeats 400000 in
theorem countGrows_yes (a b : Nat) (w : World) (h : a ≤ b) (hb : b ≤ 1073741824) :
    Calls Try.prog 7 #[.int .i64 a, .int .i64 b] w fun e w' => e = .returned (.bool true) ∧ Ext w w' := by
  obtain ⟨x, hx⟩ : ∃ x, (Count.putL a).length = x := ⟨_, rfl⟩
  obtain ⟨y, hy⟩ : ∃ y, (Count.putL b).length = y := ⟨_, rfl⟩
  have hxy : x ≤ y := by
    rw [← hx, ← hy]; unfold Count.putL; rw [if_pos (by omega), if_pos (by omega)]; exact Count.put_grows _ _ (by omega)
  have hx1 : 1 ≤ x := by rw [← hx]; unfold Count.putL; rw [if_pos (by omega)]; exact Count.put_pos _
  have HX := Lib.hid hx
  have HY := Lib.hid hy
  clear hx hy
  go_enter Try.func7, Try.ntmps7
  go_wp2_with fail
  refine (size_at _ x HX.out _).mono ?_
  rintro e w1 ⟨rfl, h1⟩
  go_wp2_with fail
  refine (size_at _ y HY.out _).mono ?_
  rintro e w2 ⟨rfl, h2⟩
  go_wp2_with fail
  refine (size_at _ x HX.out _).mono ?_
  rintro e w3 ⟨rfl, h3⟩
  go_wp2_with fail
  refine (count_awake _).mono ?_
  rintro e w5 ⟨rfl, h5⟩
  go_wp2
  go_ret
  exact ⟨rfl, ((h1.trans h2).trans h3).trans h5⟩

theorem countGrows_walk (a b : Int) (w : World) :
    Calls Try.prog 7 #[.int .i64 a, .int .i64 b] w fun e w' => e = .returned (.bool true) ∧ Ext w w' := by
  by_cases h : 0 ≤ a ∧ a ≤ b ∧ b ≤ 1073741824
  · obtain ⟨x, rfl⟩ := Int.eq_ofNat_of_zero_le h.1
    obtain ⟨y, rfl⟩ := Int.eq_ofNat_of_zero_le (show 0 ≤ b by omega)
    exact countGrows_yes x y w (by omega) (by omega)
  · exact countGrows_no a b w (by omega)

end Go.Proofs.Ytjpnicocihpocaa
