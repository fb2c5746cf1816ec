/- Which texts are names: the program's answer. -/
import Derived.Test.YtfegfbhchdfibaaDiskMem
import Derived.BigQuiet
namespace Go.Proofs.Ytfegfbhchdfibaa
open Go.RowKit

namespace DK
/-- May a byte stand in a name? -/
def signB (c : Nat) : Bool := decide ((97 ≤ c ∧ c ≤ 122) ∨ (48 ≤ c ∧ c ≤ 57) ∨ c = 46 ∨ c = 95 ∨ c = 45)
/-- Is a text a name? -/
def NameP (s : ByteArray) : Prop := ¬ s.toList = [] ∧ s.size ≤ 12 ∧ ¬ s.toList = [46] ∧ ¬ s.toList = [46, 46] ∧ ∀ i (h : i < s.size), signB (s[i]'h).toNat = true
open Classical in
noncomputable def nameB (s : ByteArray) : Bool := decide (NameP s)
open Classical in
theorem nameB_iff (s : ByteArray) : nameB s = true ↔ NameP s := by unfold nameB; exact decide_eq_true_iff
open Classical in
theorem nameB_no {s : ByteArray} (h : ¬ NameP s) : nameB s = false := by unfold nameB; exact decide_eq_false h
end DK

set_option maxRecDepth 100000 in
theorem paths_sign (c : Int) (h0 : 0 ≤ c) (w : World) : Calls Try.prog 53 #[.int .u8 c] w fun e w' => e = .returned (.bool (DK.signB c.toNat)) ∧ w = w' := by
  obtain ⟨b, hb⟩ : ∃ b, DK.signB c.toNat = b := ⟨_, rfl⟩
  rw [hb]
  have hb2 : b = (((decide (c ≥ 97) && decide (c ≤ 122)) || (decide (c ≥ 48) && decide (c ≤ 57))) || c == 46 || c == 95 || c == 45) := by
    rw [← hb]
    unfold DK.signB
    rw [Bool.eq_iff_iff]
    simp
    omega
  have HB := Lib.hid hb2
  clear hb hb2
  go_enter Try.func53, Try.ntmps53
  go_wp2
  all_goals
    go_ret
    refine ⟨congrArg (fun z => Ending.returned (Value.bool z)) ?_, rfl⟩
    rw [HB.out, Bool.eq_iff_iff]
    simp
    try omega

set_option maxRecDepth 100000 in
theorem paths_name (s : ByteArray) (hs : s.size ≤ 2199023255552) (w : World) : Calls Try.prog 45 #[.string s] w fun e w' => e = .returned (.bool (DK.nameB s)) ∧ w = w' := by
  by_cases h1 : s.toList = []
  · rw [DK.nameB_no fun h => h.1 h1]
    go_enter Try.func45, Try.ntmps45
    go_wp2
    go_ret
    exact ⟨rfl, rfl⟩
  by_cases h2 : s.size ≤ 12
  case neg =>
    rw [DK.nameB_no fun h => h2 h.2.1]
    have h3 : (12 : Int) < s.size := by omega
    go_enter Try.func45, Try.ntmps45
    go_wp2
    go_ret
    exact ⟨rfl, rfl⟩
  by_cases h3 : s.toList = [46]
  · rw [DK.nameB_no fun h => h.2.2.1 h3]
    go_enter Try.func45, Try.ntmps45
    go_wp2
    go_ret
    exact ⟨rfl, rfl⟩
  by_cases h4 : s.toList = [46, 46]
  · rw [DK.nameB_no fun h => h.2.2.2.1 h4]
    go_enter Try.func45, Try.ntmps45
    go_wp2
    go_ret
    exact ⟨rfl, rfl⟩
  have hlast : (∀ i (h : i < s.size), DK.signB (s[i]'h).toNat = true) → DK.nameB s = true := fun h => (DK.nameB_iff s).2 ⟨h1, h2, h3, h4, h⟩
  have hno : ∀ i (h : i < s.size), DK.signB (s[i]'h).toNat = false → DK.nameB s = false := fun i h hf => DK.nameB_no fun hn => by rw [hn.2.2.2.2 i h] at hf; cases hf
  have HL := Lib.hid hlast
  have HN := Lib.hid hno
  clear hlast hno
  have h5 : ¬ (12 : Int) < s.size := by omega
  have h5 : decide ((12 : Int) < s.size) = false := decide_eq_false h5
  have e1 : s.toList.isEmpty = false := by rw [List.isEmpty_eq_false_iff]; exact h1
  have e2 : (s.toList == [46]) = false := by rw [beq_eq_false_iff_ne]; exact h3
  have e3 : (s.toList == [46, 46]) = false := by rw [beq_eq_false_iff_ne]; exact h4
  go_enter Try.func45, Try.ntmps45
  go_wp2
  go_loopw [21] (fun i W => ∃ k : Nat, k ≤ s.size ∧ i = .int .i64 k ∧ Hid (∀ j (h : j < s.size), j < k → DK.signB (s[j]'h).toNat = true) ∧ w = W) (fun i _ => s.size - (intOf i).toNat)
  case atStart => exact ⟨0, by omega, rfl, Lib.hid (fun j h hj => absurd hj (Nat.not_lt_zero _)), rfl⟩
  case round =>
    obtain ⟨k, hk, rfl, HP, rfl⟩ := hrel
    by_cases hlt : k < s.size
    · obtain ⟨q, hq⟩ : ∃ q, DK.signB (s[k]'hlt).toNat = q := ⟨_, rfl⟩
      have HQ := Lib.hid hq
      have hc := paths_sign ((s[k]'hlt).toNat : Int) (by omega) w
      rw [show (((s[k]'hlt).toNat : Int)).toNat = (s[k]'hlt).toNat from rfl, hq] at hc
      have HC := Lib.hid hc
      clear hq hc
      go_wp2_with fail
      refine HC.out.mono ?_
      rintro e w2 ⟨rfl, rfl⟩
      cases q with
      | true =>
        go_wp2
        go_roundw
        case rel => exact ⟨k + 1, by omega, by go_num, Lib.hid (fun j h hj => (by
          by_cases e : j < k
          · exact HP.out j h e
          · have : j = k := by omega
            subst this
            exact HQ.out)), by first | rfl | trivial⟩
        case measure => simp [intOf]; omega
      | false =>
        go_wp2
        go_ret
        exact ⟨by rw [HN.out k hlt HQ.out]; rfl, rfl⟩
    · obtain rfl : k = s.size := by omega
      go_wp2
      go_ret
      exact ⟨by rw [HL.out (fun i h => HP.out i h h)]; rfl, rfl⟩
end Go.Proofs.Ytfegfbhchdfibaa
