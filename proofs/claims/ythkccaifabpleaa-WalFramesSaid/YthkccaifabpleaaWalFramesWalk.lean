/- The walk of WalFrames. -/
import Derived.Test.YthkccaifabpleaaWalLaw
namespace Go.Proofs.Ythkccaifabpleaa
open Go.RowKit

set_option maxRecDepth 100000 in
set_option maxHeartbeats 400000 in
theorem walFrames_walk (n : Int) (s : ByteArray) (w : World) (hz : s.size ≤ maxLen) :
    Calls Try.prog 3 #[.int .i64 n, .string s] w fun e w' => e = .returned (.bool true) ∧ Ext w w' := by
  unfold maxLen at hz
  by_cases hs : s.size ≤ 20000
  · obtain ⟨f, hf⟩ : ∃ f, Wal.frame n s.data.toList = f := ⟨_, rfl⟩
    have HF := Lib.hid hf
    clear hf
    go_enter Try.func3, Try.ntmps3
    go_wp2_with fail
    refine (frame_at n s _ f rfl HF.out _ (by omega)).mono ?_
    rintro e w1 ⟨rfl, h1⟩
    go_wp2_with fail
    refine (refFrame_at n s _ f rfl HF.out _ (by omega)).mono ?_
    rintro e w2 ⟨rfl, h2⟩
    have q2 : ((str f).toList == (str f).toList) = true := by simp
    go_wp2_with fail
    refine (wal_awake _).mono ?_
    rintro e w3 ⟨rfl, h3⟩
    go_wp2
    go_ret
    exact ⟨rfl, (h1.trans h2).trans h3⟩
  · go_enter Try.func3, Try.ntmps3
    go_wp2_with fail
    refine (wal_awake _).mono ?_
    rintro e w3 ⟨rfl, h3⟩
    go_wp2
    go_ret
    exact ⟨rfl, h3⟩

end Go.Proofs.Ythkccaifabpleaa
