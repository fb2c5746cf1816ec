/- The document's Name is the program's. PRINTED BY mk_docname.py. -/
import Derived.Test.YtfegfbhchdfibaaDiskName
import Derived.Deep.CutRange
import Derived.Test.YtfegfbhchdfibaaQuietG
namespace Go.Proofs.Ytfegfbhchdfibaa
open Go.RowKit

theorem tl_size (s : ByteArray) : s.toList.length = s.size := by rw [ByteArray.toList_eq]; rfl

set_option maxRecDepth 100000 in
theorem ref_name (s : ByteArray) (hs : s.size ≤ 2199023255552) (w : World) : Calls Try.prog 57 #[.string s] w fun e w' => e = .returned (.bool (DK.nameB s)) ∧ w = w' := by
  by_cases h1 : s.toList = []
  · rw [DK.nameB_no fun h => h.1 h1]
    have e0 : s.size = 0 := by rw [← tl_size s, h1]; rfl
    go_enter Try.func57, Try.ntmps57
    go_wp2
    go_ret
    exact ⟨rfl, rfl⟩
  by_cases h2 : s.size ≤ 12
  case neg =>
    rw [DK.nameB_no fun h => h2 h.2.1]
    have h3 : (12 : Int) < s.size := by omega
    go_enter Try.func57, Try.ntmps57
    go_wp2
    go_ret
    exact ⟨rfl, rfl⟩
  by_cases h3 : s.toList = [46]
  · rw [DK.nameB_no fun h => h.2.2.1 h3]
    have e0 : s.size = 1 := by rw [← tl_size s, h3]; rfl
    go_enter Try.func57, Try.ntmps57
    go_wp2
    go_ret
    exact ⟨rfl, rfl⟩
  by_cases h4 : s.toList = [46, 46]
  · rw [DK.nameB_no fun h => h.2.2.2.1 h4]
    have e0 : s.size = 2 := by rw [← tl_size s, h4]; rfl
    go_enter Try.func57, Try.ntmps57
    go_wp2
    go_ret
    exact ⟨rfl, rfl⟩
  have hlast : (∀ i (h : i < s.size), DK.signB (s[i]'h).toNat = true) → DK.nameB s = true := fun h => (DK.nameB_iff s).2 ⟨h1, h2, h3, h4, h⟩
  have hno : ∀ i (h : i < s.size), DK.signB (s[i]'h).toNat = false → DK.nameB s = false := fun i h hf => DK.nameB_no fun hn => by rw [hn.2.2.2.2 i h] at hf; cases hf
  have HL := Lib.hid hlast
  have HN := Lib.hid hno
  clear hlast hno
  have h5 : ¬ (12 : Int) < s.size := by omega
  have h5 : decide ((12 : Int) < s.size) = false := decide_eq_false h5
  have e0 : decide ((s.size : Int) < 1) = false := decide_eq_false (by have h6 := tl_size s; have h7 : s.toList.length ≠ 0 := fun h => h1 (List.length_eq_zero_iff.1 h); omega)
  have e1 : s.toList.isEmpty = false := by rw [List.isEmpty_eq_false_iff]; exact h1
  have e2 : (s.toList == [46]) = false := by rw [beq_eq_false_iff_ne]; exact h3
  have e3 : (s.toList == [46, 46]) = false := by rw [beq_eq_false_iff_ne]; exact h4
  go_enter Try.func57, Try.ntmps57
  go_wp2
  go_loopw [3] (fun i W => ∃ k : Nat, k ≤ s.size ∧ i = .int .i64 k ∧ Hid (∀ j (h : j < s.size), j < k → DK.signB (s[j]'h).toNat = true) ∧ w = W) (fun i _ => s.size - (intOf i).toNat)
  case atStart => exact ⟨0, by omega, rfl, Lib.hid (fun j h hj => absurd hj (Nat.not_lt_zero _)), rfl⟩
  case round =>
    obtain ⟨k, hk, rfl, HP, rfl⟩ := hrel
    by_cases hlt : k < s.size
    · have HCC0 : ∃ c, (s[k]'hlt).toNat = c := ⟨_, rfl⟩
      obtain ⟨c, hcc⟩ := HCC0
      have HCC := Lib.hid hcc
      have hc255 : c ≤ 255 := by have := (s[k]'hlt).toNat_lt; omega
      go_upto_region 7 with fail
      clear hcc
      have hcs : c ≤ 44 ∨ c = 45 ∨ c = 46 ∨ c = 47 ∨ (48 ≤ c ∧ c ≤ 57) ∨ (58 ≤ c ∧ c ≤ 94) ∨ c = 95 ∨ c = 96 ∨ (97 ≤ c ∧ c ≤ 122) ∨ 123 ≤ c := by omega
      rcases hcs with h | h | h | h | h | h | h | h | h | h
      · have dq : DK.signB c = false := by unfold DK.signB; rw [Bool.eq_iff_iff]; simp; omega
        have : decide ((c : Int) < 97) = true := decide_eq_true (by omega)
        have : decide ((122 : Int) < (c : Int)) = false := decide_eq_false (by omega)
        have : decide ((c : Int) < 48) = true := decide_eq_true (by omega)
        have : decide ((57 : Int) < (c : Int)) = false := decide_eq_false (by omega)
        have : ((c : Int) == 46) = false := beq_eq_false_iff_ne.2 (by omega)
        have : ((c : Int) != 46) = true := bne_iff_ne.2 (by omega)
        have : ((c : Int) == 95) = false := beq_eq_false_iff_ne.2 (by omega)
        have : ((c : Int) != 95) = true := bne_iff_ne.2 (by omega)
        have : ((c : Int) == 45) = false := beq_eq_false_iff_ne.2 (by omega)
        have : ((c : Int) != 45) = true := bne_iff_ne.2 (by omega)
        go_wp2
        go_ret
        exact ⟨by rw [HN.out k hlt (by rw [HCC.out]; exact dq)]; rfl, by first | rfl | trivial⟩
      · have dq : DK.signB c = true := by unfold DK.signB; rw [Bool.eq_iff_iff]; simp; omega
        have : decide ((c : Int) < 97) = true := decide_eq_true (by omega)
        have : decide ((122 : Int) < (c : Int)) = false := decide_eq_false (by omega)
        have : decide ((c : Int) < 48) = true := decide_eq_true (by omega)
        have : decide ((57 : Int) < (c : Int)) = false := decide_eq_false (by omega)
        have : ((c : Int) == 46) = false := beq_eq_false_iff_ne.2 (by omega)
        have : ((c : Int) != 46) = true := bne_iff_ne.2 (by omega)
        have : ((c : Int) == 95) = false := beq_eq_false_iff_ne.2 (by omega)
        have : ((c : Int) != 95) = true := bne_iff_ne.2 (by omega)
        have : ((c : Int) == 45) = true := beq_iff_eq.2 (by omega)
        have : ((c : Int) != 45) = false := by rw [bne, beq_iff_eq.2 (show (c : Int) = 45 by omega)]; rfl
        go_wp2
        go_roundw
        case rel => exact ⟨k + 1, by omega, by go_num, Lib.hid (fun j h hj => (by
          by_cases e : j < k
          · exact HP.out j h e
          · have : j = k := by omega
            subst this
            rw [HCC.out]
            exact dq)), by first | rfl | trivial⟩
        case measure => simp [intOf]; omega
      · have dq : DK.signB c = true := by unfold DK.signB; rw [Bool.eq_iff_iff]; simp; omega
        have : decide ((c : Int) < 97) = true := decide_eq_true (by omega)
        have : decide ((122 : Int) < (c : Int)) = false := decide_eq_false (by omega)
        have : decide ((c : Int) < 48) = true := decide_eq_true (by omega)
        have : decide ((57 : Int) < (c : Int)) = false := decide_eq_false (by omega)
        have : ((c : Int) == 46) = true := beq_iff_eq.2 (by omega)
        have : ((c : Int) != 46) = false := by rw [bne, beq_iff_eq.2 (show (c : Int) = 46 by omega)]; rfl
        have : ((c : Int) == 95) = false := beq_eq_false_iff_ne.2 (by omega)
        have : ((c : Int) != 95) = true := bne_iff_ne.2 (by omega)
        have : ((c : Int) == 45) = false := beq_eq_false_iff_ne.2 (by omega)
        have : ((c : Int) != 45) = true := bne_iff_ne.2 (by omega)
        go_wp2
        go_roundw
        case rel => exact ⟨k + 1, by omega, by go_num, Lib.hid (fun j h hj => (by
          by_cases e : j < k
          · exact HP.out j h e
          · have : j = k := by omega
            subst this
            rw [HCC.out]
            exact dq)), by first | rfl | trivial⟩
        case measure => simp [intOf]; omega
      · have dq : DK.signB c = false := by unfold DK.signB; rw [Bool.eq_iff_iff]; simp; omega
        have : decide ((c : Int) < 97) = true := decide_eq_true (by omega)
        have : decide ((122 : Int) < (c : Int)) = false := decide_eq_false (by omega)
        have : decide ((c : Int) < 48) = true := decide_eq_true (by omega)
        have : decide ((57 : Int) < (c : Int)) = false := decide_eq_false (by omega)
        have : ((c : Int) == 46) = false := beq_eq_false_iff_ne.2 (by omega)
        have : ((c : Int) != 46) = true := bne_iff_ne.2 (by omega)
        have : ((c : Int) == 95) = false := beq_eq_false_iff_ne.2 (by omega)
        have : ((c : Int) != 95) = true := bne_iff_ne.2 (by omega)
        have : ((c : Int) == 45) = false := beq_eq_false_iff_ne.2 (by omega)
        have : ((c : Int) != 45) = true := bne_iff_ne.2 (by omega)
        go_wp2
        go_ret
        exact ⟨by rw [HN.out k hlt (by rw [HCC.out]; exact dq)]; rfl, by first | rfl | trivial⟩
      · have dq : DK.signB c = true := by unfold DK.signB; rw [Bool.eq_iff_iff]; simp; omega
        have : decide ((c : Int) < 97) = true := decide_eq_true (by omega)
        have : decide ((122 : Int) < (c : Int)) = false := decide_eq_false (by omega)
        have : decide ((c : Int) < 48) = false := decide_eq_false (by omega)
        have : decide ((57 : Int) < (c : Int)) = false := decide_eq_false (by omega)
        have : ((c : Int) == 46) = false := beq_eq_false_iff_ne.2 (by omega)
        have : ((c : Int) != 46) = true := bne_iff_ne.2 (by omega)
        have : ((c : Int) == 95) = false := beq_eq_false_iff_ne.2 (by omega)
        have : ((c : Int) != 95) = true := bne_iff_ne.2 (by omega)
        have : ((c : Int) == 45) = false := beq_eq_false_iff_ne.2 (by omega)
        have : ((c : Int) != 45) = true := bne_iff_ne.2 (by omega)
        go_wp2
        go_roundw
        case rel => exact ⟨k + 1, by omega, by go_num, Lib.hid (fun j h hj => (by
          by_cases e : j < k
          · exact HP.out j h e
          · have : j = k := by omega
            subst this
            rw [HCC.out]
            exact dq)), by first | rfl | trivial⟩
        case measure => simp [intOf]; omega
      · have dq : DK.signB c = false := by unfold DK.signB; rw [Bool.eq_iff_iff]; simp; omega
        have : decide ((c : Int) < 97) = true := decide_eq_true (by omega)
        have : decide ((122 : Int) < (c : Int)) = false := decide_eq_false (by omega)
        have : decide ((c : Int) < 48) = false := decide_eq_false (by omega)
        have : decide ((57 : Int) < (c : Int)) = true := decide_eq_true (by omega)
        have : ((c : Int) == 46) = false := beq_eq_false_iff_ne.2 (by omega)
        have : ((c : Int) != 46) = true := bne_iff_ne.2 (by omega)
        have : ((c : Int) == 95) = false := beq_eq_false_iff_ne.2 (by omega)
        have : ((c : Int) != 95) = true := bne_iff_ne.2 (by omega)
        have : ((c : Int) == 45) = false := beq_eq_false_iff_ne.2 (by omega)
        have : ((c : Int) != 45) = true := bne_iff_ne.2 (by omega)
        go_wp2
        go_ret
        exact ⟨by rw [HN.out k hlt (by rw [HCC.out]; exact dq)]; rfl, by first | rfl | trivial⟩
      · have dq : DK.signB c = true := by unfold DK.signB; rw [Bool.eq_iff_iff]; simp; omega
        have : decide ((c : Int) < 97) = true := decide_eq_true (by omega)
        have : decide ((122 : Int) < (c : Int)) = false := decide_eq_false (by omega)
        have : decide ((c : Int) < 48) = false := decide_eq_false (by omega)
        have : decide ((57 : Int) < (c : Int)) = true := decide_eq_true (by omega)
        have : ((c : Int) == 46) = false := beq_eq_false_iff_ne.2 (by omega)
        have : ((c : Int) != 46) = true := bne_iff_ne.2 (by omega)
        have : ((c : Int) == 95) = true := beq_iff_eq.2 (by omega)
        have : ((c : Int) != 95) = false := by rw [bne, beq_iff_eq.2 (show (c : Int) = 95 by omega)]; rfl
        have : ((c : Int) == 45) = false := beq_eq_false_iff_ne.2 (by omega)
        have : ((c : Int) != 45) = true := bne_iff_ne.2 (by omega)
        go_wp2
        go_roundw
        case rel => exact ⟨k + 1, by omega, by go_num, Lib.hid (fun j h hj => (by
          by_cases e : j < k
          · exact HP.out j h e
          · have : j = k := by omega
            subst this
            rw [HCC.out]
            exact dq)), by first | rfl | trivial⟩
        case measure => simp [intOf]; omega
      · have dq : DK.signB c = false := by unfold DK.signB; rw [Bool.eq_iff_iff]; simp; omega
        have : decide ((c : Int) < 97) = true := decide_eq_true (by omega)
        have : decide ((122 : Int) < (c : Int)) = false := decide_eq_false (by omega)
        have : decide ((c : Int) < 48) = false := decide_eq_false (by omega)
        have : decide ((57 : Int) < (c : Int)) = true := decide_eq_true (by omega)
        have : ((c : Int) == 46) = false := beq_eq_false_iff_ne.2 (by omega)
        have : ((c : Int) != 46) = true := bne_iff_ne.2 (by omega)
        have : ((c : Int) == 95) = false := beq_eq_false_iff_ne.2 (by omega)
        have : ((c : Int) != 95) = true := bne_iff_ne.2 (by omega)
        have : ((c : Int) == 45) = false := beq_eq_false_iff_ne.2 (by omega)
        have : ((c : Int) != 45) = true := bne_iff_ne.2 (by omega)
        go_wp2
        go_ret
        exact ⟨by rw [HN.out k hlt (by rw [HCC.out]; exact dq)]; rfl, by first | rfl | trivial⟩
      · have dq : DK.signB c = true := by unfold DK.signB; rw [Bool.eq_iff_iff]; simp; omega
        have : decide ((c : Int) < 97) = false := decide_eq_false (by omega)
        have : decide ((122 : Int) < (c : Int)) = false := decide_eq_false (by omega)
        have : decide ((c : Int) < 48) = false := decide_eq_false (by omega)
        have : decide ((57 : Int) < (c : Int)) = true := decide_eq_true (by omega)
        have : ((c : Int) == 46) = false := beq_eq_false_iff_ne.2 (by omega)
        have : ((c : Int) != 46) = true := bne_iff_ne.2 (by omega)
        have : ((c : Int) == 95) = false := beq_eq_false_iff_ne.2 (by omega)
        have : ((c : Int) != 95) = true := bne_iff_ne.2 (by omega)
        have : ((c : Int) == 45) = false := beq_eq_false_iff_ne.2 (by omega)
        have : ((c : Int) != 45) = true := bne_iff_ne.2 (by omega)
        go_wp2
        go_roundw
        case rel => exact ⟨k + 1, by omega, by go_num, Lib.hid (fun j h hj => (by
          by_cases e : j < k
          · exact HP.out j h e
          · have : j = k := by omega
            subst this
            rw [HCC.out]
            exact dq)), by first | rfl | trivial⟩
        case measure => simp [intOf]; omega
      · have dq : DK.signB c = false := by unfold DK.signB; rw [Bool.eq_iff_iff]; simp; omega
        have : decide ((c : Int) < 97) = false := decide_eq_false (by omega)
        have : decide ((122 : Int) < (c : Int)) = true := decide_eq_true (by omega)
        have : decide ((c : Int) < 48) = false := decide_eq_false (by omega)
        have : decide ((57 : Int) < (c : Int)) = true := decide_eq_true (by omega)
        have : ((c : Int) == 46) = false := beq_eq_false_iff_ne.2 (by omega)
        have : ((c : Int) != 46) = true := bne_iff_ne.2 (by omega)
        have : ((c : Int) == 95) = false := beq_eq_false_iff_ne.2 (by omega)
        have : ((c : Int) != 95) = true := bne_iff_ne.2 (by omega)
        have : ((c : Int) == 45) = false := beq_eq_false_iff_ne.2 (by omega)
        have : ((c : Int) != 45) = true := bne_iff_ne.2 (by omega)
        go_wp2
        go_ret
        exact ⟨by rw [HN.out k hlt (by rw [HCC.out]; exact dq)]; rfl, by first | rfl | trivial⟩
    · obtain rfl : k = s.size := by omega
      go_wp2
      go_ret
      exact ⟨by rw [HL.out (fun i h => HP.out i h h)]; rfl, rfl⟩
end Go.Proofs.Ytfegfbhchdfibaa
