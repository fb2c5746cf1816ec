/- The chapter's examples hold: awake answers true. -/
import Derived.Test.YtlkfdiiecmpgeaaCrcSeal
namespace Go.Proofs.Ytlkfdiiecmpgeaa
open Go.RowKit

theorem sum_example : Crc.sum [49, 50, 51, 52, 53, 54, 55, 56, 57] = 3421780262 := by decide +kernel
theorem sum_none : Crc.sum [] = 0 := by decide +kernel
theorem seal_none : Crc.seal' [] = [0, 0, 0, 0] := by decide +kernel

theorem crc_of_at (t : ByteArray) (l : List UInt8) (n : Nat) (hl : t.data.toList = l) (hn : Crc.sum l = n) (w : World) (hs : t.size ≤ maxLen) :
    Calls Try.prog 9 #[.string t] w fun e w' => e = .returned (.int .u32 n) ∧ Ext w w' := by
  subst hl hn
  exact (crc_of_any t w hs).mono fun e w' ⟨h1, h2⟩ => ⟨h1, by rw [h2]; exact (Ext.refl _).alloc _⟩

set_option maxHeartbeats 400000 in
theorem crc_awake (w : World) : Calls Try.prog 8 #[] w fun e w' => e = .returned (.bool true) ∧ Ext w w' := by
  go_enter Try.func8, Try.ntmps8
  go_wp2_with fail
  refine (crc_of_at _ _ 3421780262 rfl sum_example _ (by decide)).mono ?_
  rintro e w1 ⟨rfl, h1⟩
  go_wp2_with fail
  refine (crc_of_at _ _ 0 rfl sum_none _ (by decide)).mono ?_
  rintro e w2 ⟨rfl, h2⟩
  go_wp2_with fail
  refine (crc_seal_any _ _ (by decide)).mono ?_
  rintro e w3 ⟨rfl, h3⟩
  rw [show ({ data := #[] } : ByteArray).data.toList = [] from rfl, seal_none]
  go_wp2
  go_ret
  exact ⟨rfl, (h1.trans h2).trans h3⟩

end Go.Proofs.Ytlkfdiiecmpgeaa
