/- What the sum's Write does: the bytes of a text go into the register that lies behind the pointer; a nil pointer is left. -/
import Derived.Test.YthkccaifabpleaaCrcStep
import Derived.Test.YthkccaifabpleaaMem
namespace Go.Proofs.Ythkccaifabpleaa
open Go.RowKit

theorem take_snoc (s : ByteArray) (k : Nat) (h : k < s.size) : s.data.toList.take (k + 1) = s.data.toList.take k ++ [s[k]] := by
  rw [List.take_succ_eq_append_getElem (by simpa using h)]; rfl

theorem crc_write_nil (t : ByteArray) (w : World) :
    Calls Try.prog 46 #[.pointer none, .string t] w fun e w' => e = .returned (.tuple #[]) ∧ w = w' := by
  go_enter Try.func46, Try.ntmps46
  go_wp2
  go_returns
  exact ⟨rfl, rfl⟩

set_option maxHeartbeats 400000 in
theorem crc_write_any (a : Addr) (v : Nat) (t : ByteArray) (w : World) (hv : v < 4294967296) (hs : t.size ≤ maxLen) (hc : w.cell? a = some (.int .u32 v)) (hf : w.frozen? a = false) :
    Calls Try.prog 46 #[.pointer (some a), .string t] w fun e w' => e = .returned (.tuple #[]) ∧ w' = w.setCell a (.int .u32 (4294967295 - Crc.reg (4294967295 - v) t.data.toList : Nat)) := by
  unfold maxLen at hs
  have hmf : ∀ (fn : Fn) (first cap : Array Value) (w : World), (Instr.makeFunc fn first cap).run Try.prog w = .ok (.func fn first cap) w := fun _ _ _ _ => rfl
  go_enter Try.func46, Try.ntmps46
  go_wp2
  go_loopw [12] (fun i wr => ∃ k : Nat, k ≤ t.size ∧ i = .int .i64 k ∧ wr = w.setCell a (.int .u32 (4294967295 - Crc.reg (4294967295 - v) (t.data.toList.take k) : Nat))) (fun i _ => t.size - (intOf i).toNat)
  case atStart => exact ⟨0, by omega, rfl, by rw [setCell_self]; rw [hc]; simp [Crc.reg]; omega⟩
  case round =>
    obtain ⟨k, hk, rfl, rfl⟩ := hrel
    have hl := Crc.reg_lt (t.data.toList.take k) (v := 4294967295 - v) (by omega)
    by_cases hlt : k < t.size
    · have hsn := Crc.reg_snoc (4294967295 - v) (t.data.toList.take k) t[k]
      rw [← take_snoc t k hlt] at hsn
      have HS := Lib.hid hsn
      clear hsn
      generalize hR : Crc.reg (4294967295 - v) (t.data.toList.take k) = r at hl HS ⊢
      clear hR
      have hcr : (w.setCell a (.int .u32 (4294967295 - r : Nat))).cell? a = some (.int .u32 (4294967295 - r : Nat)) := World.cell?_setCell_same _ _ _ hc
      have hfr : (w.setCell a (.int .u32 (4294967295 - r : Nat))).frozen? a = false := by rw [World.frozen?_setCell]; exact hf
      have hb := t[k].toNat_lt
      go_wp2_with fail
      refine (crc_step_any a (4294967295 - r) t[k].toNat _ (by omega) (by omega) hcr hfr).mono ?_
      rintro e w' ⟨rfl, rfl⟩
      rw [setCell_setCell, show 4294967295 - (4294967295 - r) = r from by omega]
      go_wp2
      go_roundw
      case rel => exact ⟨k + 1, by omega, by go_num, by rw [HS.out]⟩
      case measure => simp [intOf]; omega
    · obtain rfl : k = t.size := by omega
      go_wp2
      go_returns
      exact ⟨rfl, by rw [List.take_of_length_le (by simp)]⟩
end Go.Proofs.Ythkccaifabpleaa
