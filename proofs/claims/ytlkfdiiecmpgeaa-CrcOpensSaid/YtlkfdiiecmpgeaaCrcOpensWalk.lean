/- The walk of CrcOpens: it answers true for every text. -/
import Derived.Test.YtlkfdiiecmpgeaaCrcAwake
namespace Go.Proofs.Ytlkfdiiecmpgeaa
open Go.RowKit

set_option maxHeartbeats 400000 in
theorem crcOpens_walk (t : ByteArray) (w : World) (hs : t.size ≤ maxLen) :
    Calls Try.prog 6 #[.string t] w fun e w' => e = .returned (.bool true) ∧ Ext w w' := by
  have hs' := hs
  unfold maxLen at hs'
  by_cases hg : 20000 < t.size
  · go_enter Try.func6, Try.ntmps6
    go_wp2_with fail
    refine (crc_awake _).mono ?_
    rintro e w' ⟨rfl, h1⟩
    go_wp2
    go_ret
    exact ⟨rfl, h1⟩
  · have h2 : t.size ≤ 140737488351232 := by omega
    go_enter Try.func6, Try.ntmps6
    go_wp2_with fail
    refine (crc_open_any t _ h2).mono ?_
    rintro e w1 ⟨rfl, h1⟩
    go_wp2_with fail
    refine (ref_open_any t _ h2).mono ?_
    rintro e w2 ⟨rfl, h2⟩
    generalize openL t.data.toList = o
    obtain ⟨l, b⟩ := o
    go_wp2_with fail
    refine (crc_awake _).mono ?_
    rintro e w3 ⟨rfl, h3⟩
    go_wp2
    go_ret
    exact ⟨rfl, (h1.trans h2).trans h3⟩

end Go.Proofs.Ytlkfdiiecmpgeaa
