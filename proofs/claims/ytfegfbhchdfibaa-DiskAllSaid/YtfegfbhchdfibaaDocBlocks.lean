/- The document's count of blocks. -/
import Derived.Test.YtfegfbhchdfibaaDocMem
namespace Go.Proofs.Ytfegfbhchdfibaa
open Go.RowKit

theorem blocks_next (l : DK.Files) (k : Nat) (hk : k < l.length) : DK.blocks (l.take (k + 1)) = DK.blocks (l.take k) + DK.blk l[k].2.size := by
  rw [take_next l k hk]
  unfold DK.blocks
  rw [List.map_append, List.sum_append]
  simp
theorem blocks_le (l : DK.Files) (k : Nat) : DK.blocks (l.take k) ≤ DK.blocks l := by
  conv => rhs; rw [← List.take_append_drop k l]
  unfold DK.blocks
  rw [List.map_append, List.sum_append]
  omega

set_option maxRecDepth 100000 in
set_option maxHeartbeats 1000000 in
theorem ref_blocks {w : World} {v : Value} {l : DK.Files} (hv : FsV w v l) (hb : DK.blocks l ≤ 1152921504606846976) :
    Calls Try.prog 43 #[v] w fun e w' => e = .returned (.int .i64 (DK.blocks l : Nat)) ∧ Ext w w' := by
  obtain ⟨p, c, rfl, hlen, h0⟩ := hv
  have HV : Hid (l.length = 0 ∨ ∃ b o, p = some ⟨b, o, none⟩ ∧ FsAt w b o l) := h0
  clear h0
  obtain ⟨m, hm⟩ : ∃ m, l.length = m := ⟨_, rfl⟩
  have HM := Lib.hid hm
  rw [hm] at hlen HV ⊢
  have hle := blocks_le l
  obtain ⟨tot, htot⟩ : ∃ t, DK.blocks l = t := ⟨_, rfl⟩
  rw [htot] at hb hle ⊢
  have HTOT := Lib.hid htot
  clear hm htot
  go_enter Try.func43, Try.ntmps43
  go_wp2
  go_loopw [3, 4] (fun a iv W => ∃ k z : Nat, k ≤ m ∧ iv = .int .i64 k ∧ a = .int .i64 z ∧ Hid (DK.blocks (l.take k) = z) ∧ Hid (Ext w W)) (fun _ iv _ => m - (intOf iv).toNat)
  case atStart => exact ⟨0, 0, by omega, rfl, rfl, Lib.hid rfl, Lib.hid (Ext.refl _)⟩
  case round =>
    obtain ⟨k, z, hk, rfl, rfl, HZ, HE⟩ := hrel
    by_cases hlt : k < m
    · have hkl : k < l.length := by rw [HM.out]; exact hlt
      obtain ⟨b, o, rfl, hs⟩ : ∃ b o, p = some ⟨b, o, none⟩ ∧ FsAt w b o l := by
        rcases HV.out with h | h
        · omega
        · exact h
      have q2 := HE.out.cell (hs k hkl).2
      have hnx := blocks_next l k hkl
      have hl2 := hle (k + 1)
      rw [hnx, HZ.out] at hl2
      rw [HZ.out] at hnx
      generalize l[k] = x at *
      obtain ⟨a, s⟩ := x
      simp only at q2 hnx hl2
      have HNX := Lib.hid hnx
      clear hs hnx hle
      have hbk : DK.blk s.size = s.size / 32 + (if s.size % 32 = 0 ∧ s.size ≠ 0 then 0 else 1) := by unfold DK.blk; split <;> omega
      rw [hbk] at hl2
      have HBK := Lib.hid hbk
      have d1 : (s.size : Int).tdiv 32 = ((s.size / 32 : Nat) : Int) := by rw [Int.tdiv_eq_ediv_of_nonneg (by omega)]; rfl
      have d2 : (s.size : Int).tmod 32 = ((s.size % 32 : Nat) : Int) := by rw [Int.tmod_eq_emod_of_nonneg (by omega)]; rfl
      have HR : Hid (s.size % 32 < 32 ∧ s.size % 32 ≤ s.size ∧ (s.size = 0 → s.size % 32 = 0)) := Lib.hid ⟨by omega, by omega, by omega⟩
      clear hbk
      obtain ⟨qn, hqn⟩ : ∃ q, s.size / 32 = q := ⟨_, rfl⟩
      obtain ⟨r, hr⟩ : ∃ r, s.size % 32 = r := ⟨_, rfl⟩
      rw [hqn] at d1
      rw [hr] at d2
      have HQ : Hid (s.size / 32 = qn ∧ s.size % 32 = r) := Lib.hid ⟨hqn, hr⟩
      have hqb : qn ≤ 1152921504606846976 := by have := hl2; rw [hqn] at this; omega
      have hrb : r < 32 := by omega
      have hz : z ≤ 1152921504606846976 := by omega
      have HNX2 : Hid (DK.blocks (l.take (k + 1)) = z + (qn + if r = 0 ∧ s.size ≠ 0 then 0 else 1)) := Lib.hid (by rw [HNX.out, HBK.out, hqn, hr])
      have hs0 : s.size = 0 → r = 0 := fun h => by rw [← hr, h]
      clear hqn hr hl2
      by_cases hr0 : r = 0
      · by_cases hsz : s.size = 0
        · have hq0 : qn = 0 := by rw [← HQ.out.1, hsz]
          subst hq0 hr0
          go_wp2
          go_roundw
          case rel => exact ⟨k + 1, z + 1, by omega, by go_num, by first | rfl | go_num, Lib.hid (by rw [HNX2.out, if_neg (by simp [hsz])]), HE⟩
          case measure => simp [intOf]; omega
        · have t1 : decide ((0 : Int) < (r : Int)) = false := decide_eq_false (by omega)
          have t2 : ((s.size : Int) == 0) = false := beq_eq_false_iff_ne.2 (by omega)
          go_wp2
          go_roundw
          case rel => exact ⟨k + 1, z + qn, by omega, by go_num, by go_num, Lib.hid (by rw [HNX2.out, if_pos ⟨hr0, hsz⟩, Nat.add_zero]), HE⟩
          case measure => simp [intOf]; omega
      · have t1 : decide ((0 : Int) < (r : Int)) = true := decide_eq_true (by omega)
        go_wp2
        go_roundw
        case rel => exact ⟨k + 1, z + (qn + 1), by omega, by go_num, by go_num, Lib.hid (by rw [HNX2.out, if_neg (fun h => hr0 h.1)]), HE⟩
        case measure => simp [intOf]; omega
    · obtain rfl : k = m := by omega
      have ht : l.take k = l := List.take_of_length_le (by rw [HM.out]; exact Nat.le_refl _)
      obtain rfl : tot = z := by rw [← HTOT.out, ← HZ.out, ht]
      clear ht
      go_wp2
      go_ret
      exact ⟨rfl, HE.out⟩
end Go.Proofs.Ytfegfbhchdfibaa
