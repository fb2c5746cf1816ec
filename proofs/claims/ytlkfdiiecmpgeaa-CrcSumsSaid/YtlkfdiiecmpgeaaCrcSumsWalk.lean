/- The walk of CrcSums: it answers true for every text. -/
import Derived.Test.YtlkfdiiecmpgeaaCrcAwake
namespace Go.Proofs.Ytlkfdiiecmpgeaa
open Go.RowKit

set_option maxHeartbeats 400000 in
theorem crcSums_walk (t : ByteArray) (w : World) (hs : t.size ≤ maxLen) :
    Calls Try.prog 3 #[.string t] w fun e w' => e = .returned (.bool true) ∧ Ext w w' := by
  have hs' := hs
  unfold maxLen at hs'
  by_cases hg : 20000 < t.size
  · go_enter Try.func3, Try.ntmps3
    go_wp2_with fail
    refine (crc_awake _).mono ?_
    rintro e w' ⟨rfl, h1⟩
    go_wp2
    go_ret
    exact ⟨rfl, h1⟩
  · have h2 : t.size ≤ 140737488351232 := by omega
    go_enter Try.func3, Try.ntmps3
    go_wp2_with fail
    refine (crc_of_at t _ _ rfl rfl _ hs).mono ?_
    rintro e w1 ⟨rfl, h1⟩
    go_wp2_with fail
    refine (ref_of_any t _ hs).mono ?_
    rintro e w1 ⟨rfl, rfl⟩
    go_wp2_with fail
    refine (crc_seal_any t _ h2).mono ?_
    rintro e w2 ⟨rfl, h2⟩
    go_wp2_with fail
    refine (ref_seal_any t _ (by omega)).mono ?_
    rintro e w3 ⟨rfl, h3⟩
    go_wp2_with fail
    refine (crc_awake _).mono ?_
    rintro e w4 ⟨rfl, h4⟩
    go_wp2
    go_ret
    exact ⟨rfl, ((h1.trans h2).trans h3).trans h4⟩

end Go.Proofs.Ytlkfdiiecmpgeaa
