import Derived.Test.YthkccaifabpleaaChecked
import Derived.Test.YthkccaifabpleaaCrcPlain
import Derived.WalkKit
import Derived.Handy
import Derived.WalkLawsBesides
import Derived.Lib.Hide
namespace Go.Proofs.Ythkccaifabpleaa
open Go.RowKit

theorem u32_all (v : Nat) (hv : v < 4294967296) : bits .xor .u32 IntKind.u32.max (v : Int) = ((4294967295 - v : Nat) : Int) := by
  rw [← Crc.turn hv]; exact u32_xor_nat 4294967295 v (by omega) hv

theorem u32_low (y : Nat) (hy : y < 4294967296) : bits .and .u32 (y : Int) 1 = ((y % 2 : Nat) : Int) := by
  rw [show (1 : Int) = ((1 : Nat) : Int) from rfl, u32_and_nat y 1 hy (by omega), nat_mask1]

theorem u32_half_xor (y : Nat) (hy : y < 4294967296) : bits .xor .u32 ((y : Int) / 2) 3988292384 = ((y / 2 ^^^ 3988292384 : Nat) : Int) :=
  u32_xor_nat (y / 2) 3988292384 (by omega) (by omega)

set_option maxHeartbeats 400000 in
theorem crc_step_any (a : Addr) (v b : Nat) (w : World) (hv : v < 4294967296) (hb : b < 256) (hc : w.cell? a = some (.int .u32 v)) (hf : w.frozen? a = false) :
    Calls Try.prog 51 #[.pointer (some a), .int .u8 b] w fun e w' => e = .returned (.tuple #[]) ∧ w' = w.setCell a (.int .u32 (4294967295 - Crc.bitN 8 ((4294967295 - v) ^^^ b) : Nat)) := by
  have e0 : IntKind.u32.signed = false := rfl
  have e1 := u32_all v hv
  have e2 : bits .xor .u32 ((4294967295 - v : Nat) : Int) (b : Int) = (((4294967295 - v) ^^^ b : Nat) : Int) := u32_xor_nat _ _ (by omega) (by omega)
  have hx : (4294967295 - v) ^^^ b < 4294967296 := Crc.xor_lt (by omega) (by omega)
  go_enter Try.func51, Try.ntmps51
  go_wp2
  clear e1 e2
  generalize hX : (4294967295 - v) ^^^ b = x at hx ⊢
  have HX := Lib.hid hX
  clear hX
  go_loop [4, 14] (fun s i => ∃ k : Nat, k ≤ 8 ∧ i = .int .i64 k ∧ s = .int .u32 (Crc.bitN k x : Nat)) (fun _ i => 8 - (intOf i).toNat)
  case atStart => exact ⟨0, by omega, rfl, rfl⟩
  case round =>
    obtain ⟨k, hk, rfl, rfl⟩ := hrel
    have hn := Crc.bitN_succ k x
    have hy := Crc.bitN_lt k hx
    generalize hY : Crc.bitN k x = y at hn hy ⊢
    have HY := Lib.hid hY
    clear hY
    have HN := Lib.hid hn
    clear hn
    have e3 := u32_low y hy
    have e4 := u32_half_xor y hy
    by_cases hlt : k < 8
    · by_cases ho : y % 2 = 1
      · have e5 : bits .and .u32 (y : Int) 1 = 1 := by rw [e3, ho]; rfl
        clear e3
        go_wp2
        go_round
        case rel => exact ⟨k + 1, by omega, by go_num, by rw [HN.out]; unfold Crc.bit; rw [if_pos ho]⟩
        case measure => simp [intOf]; omega
      · have e5 : bits .and .u32 (y : Int) 1 = 0 := by rw [e3]; omega
        clear e3
        go_wp2
        go_round
        case rel => exact ⟨k + 1, by omega, by go_num, by rw [HN.out]; unfold Crc.bit; rw [if_neg ho]; go_num⟩
        case measure => simp [intOf]; omega
    · obtain rfl : k = 8 := by omega
      have e6 := u32_all y hy
      clear e3 e4
      go_wp2
      go_end0
      exact ⟨rfl, by rw [HX.out, HY.out]⟩
end Go.Proofs.Ythkccaifabpleaa
