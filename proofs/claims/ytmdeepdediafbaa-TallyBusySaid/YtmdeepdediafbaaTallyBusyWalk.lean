/- TallyBusy answers true. -/
import Derived.Test.YtmdeepdediafbaaBusyFn
import Derived.Test.YtmdeepdediafbaaBusyDoc
import Derived.Test.YtmdeepdediafbaaTallyAwake
namespace Go.Proofs.Ytmdeepdediafbaa
open Go.RowKit

set_option maxRecDepth 100000 in
set_option maxHeartbeats 1000000 in
theorem tallyBusy_walk (p : Option Addr) (n c : Nat) (l : List Ev) (w : World) (h : Events w p n l) :
    Calls Try.prog 6 #[.slice p n c] w fun e w' => e = .returned (.bool true) ∧ Ext w w' := by
  by_cases hm : n ≤ 60
  · have hb := fun w1 (he : Ext w w1) => tally_busy p n c l w1 hm (h.ext he)
    have hd := fun w1 (he : Ext w w1) => busy_doc p n c l w1 hm (h.ext he)
    rw [Busy.same] at hb
    have HB := Lib.hid hb
    have HD := Lib.hid hd
    clear hb hd h
    go_enter Try.func6, Try.ntmps6
    go_wp2_with fail
    refine (HB.out _ (Ext.refl _)).mono ?_
    rintro e w1 ⟨v1, rfl, i1, g1⟩
    go_wp2_with fail
    refine (HD.out _ g1).mono ?_
    rintro e w2 ⟨v2, rfl, i2, g2⟩
    go_wp2_with fail
    refine (ints_same v1 v2 _ _ (i1.ext g2) i2).mono ?_
    rintro e w3 ⟨rfl, g3⟩
    go_wp2_with fail
    refine (tally_awake _).mono ?_
    rintro e w4 ⟨rfl, g4⟩
    go_wp2
    go_ret
    exact ⟨rfl, (g1.trans g2).trans (Ext.trans g3 g4)⟩
  · have hn : ¬ ((n : Int) ≤ 60) := by omega
    go_enter Try.func6, Try.ntmps6
    go_wp2_with fail
    refine (tally_awake _).mono ?_
    rintro e w4 ⟨rfl, g4⟩
    go_wp2
    go_ret
    exact ⟨rfl, g4⟩

end Go.Proofs.Ytmdeepdediafbaa
