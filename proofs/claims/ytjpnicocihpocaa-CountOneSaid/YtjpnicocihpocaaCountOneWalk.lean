/- The walk of CountOne: the bytes of which a number is taken are those that are put for it. -/
import Derived.Test.YtjpnicocihpocaaCountAwake
import Derived.Deep.RegionHeld3
import Derived.Lib.Strings
namespace Go.Proofs.Ytjpnicocihpocaa
open Go.RowKit

set_option maxRecDepth 100000 in
set_option maxHeartbeats 400000 in
theorem countOne_err (s : ByteArray) (c : Nat) (w : World) (hs : s.size ≤ maxLen) (h : Count.takeL s.data.toList = (0, 0, c)) (hc : c ≠ 0) :
    Calls Try.prog 6 #[.string s] w fun e w' => e = .returned (.bool true) ∧ Ext w w' := by
  have HL := Lib.hid h
  have hb : ((c : Int) != 0) = true := by rw [bne_iff_ne]; omega
  clear h
  go_enter Try.func6, Try.ntmps6
  go_wp2_with fail
  refine (take_at _ 0 0 c HL.out _ hs).mono ?_
  rintro e w1 ⟨rfl, h1⟩
  go_wp2_with fail
  refine (count_awake _).mono ?_
  rintro e w5 ⟨rfl, h5⟩
  go_wp2
  go_ret
  exact ⟨rfl, h1.trans h5⟩

set_option maxRecDepth 100000 in
set_option maxHeartbeats 1000000 in
theorem countOne_ok (s : ByteArray) (n k : Nat) (p : List UInt8) (w : World) (hs : s.size ≤ maxLen) (h : Count.takeL s.data.toList = (n, k, 0)) (h1 : 1 ≤ k) (hk : k ≤ s.size)
    (hp : Count.putL (n : Int) = p) (hps : s.data.toList.take k = p) :
    Calls Try.prog 6 #[.string s] w fun e w' => e = .returned (.bool true) ∧ Ext w w' := by
  have hs' := hs
  unfold maxLen at hs'
  have HL := Lib.hid h
  have HP := Lib.hid hp
  have HPS := Lib.hid hps
  clear h hp hps
  go_enter Try.func6, Try.ntmps6
  go_wp2_with fail
  refine (take_at _ n k 0 HL.out _ hs).mono ?_
  rintro e w1 ⟨rfl, hx1⟩
  go_wp2_with fail
  have d1 : decide ((1 : Int) ≤ (k : Int)) = true := by simp; omega
  have d2 : decide (1 ≤ k) = true := by simp; omega
  have d3 : decide (0 < k) = true := by simp; omega
  have d4 : decide ((k : Int) ≤ (s.size : Int)) = true := by simp; omega
  have d5 : decide (k ≤ s.size) = true := by simp; omega
  have hq : p = (s.extract 0 k).toList := by rw [ByteArray.toList_eq, Lib.extract_data, ← HPS.out]; rfl
  have d6 : decide (p = (s.extract 0 k).toList) = true := decide_eq_true hq
  have d7 : (p == (s.extract 0 k).toList) = true := beq_iff_eq.2 hq
  have d8 : (p = (s.extract 0 k).toList) = True := eq_true hq
  clear hq
  go_region_held3 (fun w' => Ext w w')
    (first | exact hx1.drew | exact Ext.trans (by assumption) hx)
    (first | (go_at_call 8; refine (put_at _ p HP.out _).mono ?_; rintro e wx ⟨rfl, hx⟩) | (go_at_call 11; refine (count_awake _).mono ?_; rintro e wx ⟨rfl, hx⟩))
  go_wp2
  go_ret
  exact ⟨rfl, by assumption⟩

theorem countOne_walk (s : ByteArray) (w : World) (hs : s.size ≤ maxLen) :
    Calls Try.prog 6 #[.string s] w fun e w' => e = .returned (.bool true) ∧ Ext w w' := by
  have h := Count.take_one s.data.toList
  generalize ht : Count.takeL s.data.toList = t at h
  obtain ⟨n, k, c⟩ := t
  simp only at h
  rcases h with ⟨hc, rfl, rfl⟩ | ⟨rfl, h1, hk, hn, hp⟩
  · exact countOne_err s c w hs ht hc
  · refine countOne_ok s n k _ w hs ht h1 hk ?_ rfl
    unfold Count.putL
    rw [if_pos (by omega)]
    exact hp

end Go.Proofs.Ytjpnicocihpocaa
