/- The walk of CountBack: a number that is put is taken again, whatever stands behind it. -/
import Derived.Test.YtjpnicocihpocaaCountAwake
namespace Go.Proofs.Ytjpnicocihpocaa
open Go.RowKit

set_option maxRecDepth 100000 in
set_option maxHeartbeats 400000 in
theorem countBack_no (n : Int) (r : ByteArray) (w : World) (h : n < 0 ∨ (0 ≤ n ∧ 1073741824 < n)) :
    Calls Try.prog 5 #[.int .i64 n, .string r] w fun e w' => e = .returned (.bool true) ∧ Ext w w' := by
  have hp : Count.putL n = [] := by unfold Count.putL; rw [if_neg (by omega)]
  have HP := Lib.hid hp
  clear hp
  rcases h with h | ⟨h, h2⟩
  all_goals
    go_enter Try.func5, Try.ntmps5
    go_wp2_with fail
    refine (put_at _ [] HP.out _).mono ?_
    rintro e w1 ⟨rfl, h1⟩
    go_wp2_with fail
    refine (count_awake _).mono ?_
    rintro e w5 ⟨rfl, h5⟩
    go_wp2
    go_ret
    exact ⟨rfl, h1.trans h5⟩

set_option maxRecDepth 100000 in
set_option maxHeartbeats 400000 in
theorem countBack_yes (n : Nat) (r : ByteArray) (w : World) (hn : n ≤ 1073741824) (hr : r.size ≤ 140737488351232) :
    Calls Try.prog 5 #[.int .i64 n, .string r] w fun e w' => e = .returned (.bool true) ∧ Ext w w' := by
  obtain ⟨p, hp⟩ : ∃ p, Count.put n = p := ⟨_, rfl⟩
  have hP : Count.putL n = p := by unfold Count.putL; rw [if_pos (by omega)]; exact hp
  have h5 := Count.put_length5 hn
  have ht := Count.take_put n r.data.toList hn
  rw [hp] at h5 ht
  obtain ⟨k, hk⟩ : ∃ k, p.length = k := ⟨_, rfl⟩
  have hsz : (⟨p.toArray⟩ : ByteArray).size = k := hk
  have hcat : ((⟨p.toArray⟩ : ByteArray) ++ r).data.toList = p ++ r.data.toList := by rw [ByteArray.data_append]; simp
  have hcs : ((⟨p.toArray⟩ : ByteArray) ++ r).size ≤ maxLen := by rw [ByteArray.size_append, hsz]; unfold maxLen; omega
  have HT := Lib.hid (show Count.takeL ((⟨p.toArray⟩ : ByteArray) ++ r).data.toList = (n, k, 0) by rw [hcat, ht, hk])
  have HP := Lib.hid hP
  have HK := Lib.hid hk
  have hp5 : p.length ≤ 5 := h5
  clear hp hP ht hk hsz hcat h5
  go_enter Try.func5, Try.ntmps5
  go_wp2_with fail
  refine (put_at _ p HP.out _).mono ?_
  rintro e w1 ⟨rfl, h1⟩
  go_wp2_with fail
  refine (take_at _ n k 0 HT.out _ hcs).mono ?_
  rintro e w2 ⟨rfl, h2⟩
  have hk' := HK.out
  clear hcs
  go_wp2_with fail
  refine (count_awake _).mono ?_
  rintro e w5 ⟨rfl, h5⟩
  go_wp2
  go_ret
  exact ⟨rfl, (h1.trans h2).trans h5⟩

theorem countBack_walk (n : Int) (r : ByteArray) (w : World) (hr : r.size ≤ 140737488351232) :
    Calls Try.prog 5 #[.int .i64 n, .string r] w fun e w' => e = .returned (.bool true) ∧ Ext w w' := by
  by_cases h : 0 ≤ n ∧ n ≤ 1073741824
  · obtain ⟨m, rfl⟩ := Int.eq_ofNat_of_zero_le h.1
    exact countBack_yes m r w (by omega) hr
  · exact countBack_no n r w (by omega)

end Go.Proofs.Ytjpnicocihpocaa
