/- What the sum's Value and Of answer, and the document's Of: the register's bits, all turned. -/
import Derived.Test.YthkccaifabpleaaCrcWrite
namespace Go.Proofs.Ythkccaifabpleaa
open Go.RowKit

theorem crc_value_nil (w : World) :
    Calls Try.prog 47 #[.pointer none] w fun e w' => e = .returned (.int .u32 0) ∧ w = w' := by
  go_enter Try.func47, Try.ntmps47
  go_wp2
  go_returns
  exact ⟨rfl, rfl⟩

theorem crc_value_any (a : Addr) (v : Nat) (w : World) (hc : w.cell? a = some (.int .u32 v)) :
    Calls Try.prog 47 #[.pointer (some a)] w fun e w' => e = .returned (.int .u32 v) ∧ w = w' := by
  go_enter Try.func47, Try.ntmps47
  go_wp2
  go_returns
  exact ⟨rfl, rfl⟩

theorem crc_of_any (t : ByteArray) (w : World) (hs : t.size ≤ maxLen) :
    Calls Try.prog 32 #[.string t] w fun e w' => e = .returned (.int .u32 (Crc.sum t.data.toList : Nat)) ∧ w' = w.alloc (.cells #[.int .u32 (Crc.sum t.data.toList : Nat)] 81) := by
  have hl : Crc.sum t.data.toList = 4294967295 - Crc.reg (4294967295 - 0) t.data.toList := rfl
  have HL := Lib.hid hl
  clear hl
  go_enter Try.func32, Try.ntmps32
  go_wp2_with fail
  refine (crc_write_any ⟨w.heap.size, 0, none⟩ 0 t _ (by omega) hs (by simp) (by simp)).mono ?_
  rintro e w' ⟨rfl, rfl⟩
  rw [← HL.out]
  generalize hX : Crc.sum t.data.toList = x
  have HX := Lib.hid hX
  clear hX
  go_wp2_with fail
  refine (crc_value_any ⟨w.heap.size, 0, none⟩ x _ (by simp)).mono ?_
  rintro e w' ⟨rfl, rfl⟩
  go_wp2
  go_returns
  exact ⟨by rw [HX.out]; rfl, by rw [HX.out]⟩

theorem u32_rest (v : Nat) (hv : v < 4294967296) : IntKind.u32.wrap (4294967295 - (v : Int)) = ((4294967295 - v : Nat) : Int) := by
  rw [IntKind.wrap_u32]; omega

set_option maxHeartbeats 800000 in
theorem ref_of_any (t : ByteArray) (w : World) (hs : t.size ≤ maxLen) :
    Calls Try.prog 33 #[.string t] w fun e w' => e = .returned (.int .u32 (Crc.sum t.data.toList : Nat)) ∧ w = w' := by
  unfold maxLen at hs
  go_enter Try.func33, Try.ntmps33
  go_wp2
  go_loop [3, 4] (fun v i => ∃ k : Nat, k ≤ t.size ∧ i = .int .i64 k ∧ v = .int .u32 (Crc.reg 4294967295 (t.data.toList.take k) : Nat)) (fun _ i => t.size - (intOf i).toNat)
  case atStart => exact ⟨0, by omega, rfl, rfl⟩
  case round =>
    obtain ⟨k, hk, rfl, rfl⟩ := hrel
    have hl := Crc.reg_lt (t.data.toList.take k) (v := 4294967295) (by omega)
    by_cases hlt : k < t.size
    · have hsn := Crc.reg_snoc 4294967295 (t.data.toList.take k) t[k]
      rw [← take_snoc t k hlt] at hsn
      have HS := Lib.hid hsn
      clear hsn
      generalize hR : Crc.reg 4294967295 (t.data.toList.take k) = r at hl HS ⊢
      clear hR
      have hb := t[k].toNat_lt
      have e1 : bits .xor .u32 (r : Int) (t[k].toNat : Int) = ((r ^^^ t[k].toNat : Nat) : Int) := u32_xor_nat _ _ hl (by omega)
      have hx : r ^^^ t[k].toNat < 4294967296 := Crc.xor_lt hl (by omega)
      go_wp2
      clear e1
      generalize hX : r ^^^ t[k].toNat = x at hx HS ⊢
      clear hX
      go_loop [3, 5] (fun s i => ∃ j : Nat, j ≤ 8 ∧ i = .int .i64 j ∧ s = .int .u32 (Crc.bitN j x : Nat)) (fun _ i => 8 - (intOf i).toNat)
      case atStart => exact ⟨0, by omega, rfl, rfl⟩
      case round =>
        obtain ⟨j, hj, rfl, rfl⟩ := hrel
        have hn := Crc.bitN_succ j x
        have hy := Crc.bitN_lt j hx
        generalize hY : Crc.bitN j x = y at hn hy ⊢
        have HN := Lib.hid hn
        have HY := Lib.hid hY
        clear hn hY
        have e4 := u32_half_xor y hy
        by_cases hlt8 : j < 8
        · by_cases ho : y % 2 = 1
          · have e5 : ((y : Int) % 2 == 1) = true := by rw [beq_iff_eq]; omega
            have HO := Lib.hid ho
            clear ho
            go_wp2
            go_round
            case rel => exact ⟨j + 1, by omega, by go_num, by rw [HN.out]; unfold Crc.bit; rw [if_pos HO.out]⟩
            case measure => simp [intOf]; omega
          · have e5 : ((y : Int) % 2 == 1) = false := by rw [beq_eq_false_iff_ne]; omega
            clear e4
            go_wp2
            go_round
            case rel => exact ⟨j + 1, by omega, by go_num, by rw [HN.out]; unfold Crc.bit; rw [if_neg ho]; go_num⟩
            case measure => simp [intOf]; omega
        · obtain rfl : j = 8 := by omega
          clear e4
          go_wp2
          go_round
          case rel => exact ⟨k + 1, by omega, by go_num, by rw [HS.out, HY.out]⟩
          case measure => simp [intOf]; omega
    · obtain rfl : k = t.size := by omega
      have e6 := u32_rest _ hl
      go_wp2
      go_returns
      exact ⟨by unfold Crc.sum; rw [List.take_of_length_le (by simp)]; rfl, rfl⟩

end Go.Proofs.Ythkccaifabpleaa
