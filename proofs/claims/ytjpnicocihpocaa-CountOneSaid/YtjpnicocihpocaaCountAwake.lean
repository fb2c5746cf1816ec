/- The chapter's examples hold: awake answers true. -/
import Derived.Test.YtjpnicocihpocaaCountSize
import Derived.Test.YtjpnicocihpocaaRefPut
import Derived.Test.YtjpnicocihpocaaRefTake
namespace Go.Proofs.Ytjpnicocihpocaa
open Go.RowKit

theorem put300 : Count.putL 300 = [172, 2] := by
  unfold Count.putL
  rw [if_pos (by omega), show (300 : Int).toNat = 300 from rfl, Count.put_great (by omega), Count.put_small (by omega)]
  rfl

theorem take300 : Count.takeL [172, 2, 9] = (300, 2, 0) := by
  have h := Count.take_put 300 [9] (by omega)
  have e : Count.put 300 = [172, 2] := by rw [Count.put_great (by omega), Count.put_small (by omega)]; rfl
  rw [e] at h
  exact h

theorem put_at (n : Int) (l : List UInt8) (h : Count.putL n = l) (w : World) :
    Calls Try.prog 8 #[.int .i64 n] w fun e w' => e = .returned (.string ⟨l.toArray⟩) ∧ Ext w w' := by subst h; exact put_any n w
theorem size_at (n : Int) (k : Nat) (h : (Count.putL n).length = k) (w : World) :
    Calls Try.prog 10 #[.int .i64 n] w fun e w' => e = .returned (.int .i64 (k : Int)) ∧ Ext w w' := by subst h; exact size_any n w
theorem take_at (s : ByteArray) (a b c : Nat) (h : Count.takeL s.data.toList = (a, b, c)) (w : World) (hs : s.size ≤ maxLen) :
    Calls Try.prog 12 #[.string s] w fun e w' => e = .returned (.tuple #[.int .i64 (a : Int), .int .i64 (b : Int), .int .i64 (c : Int)]) ∧ Ext w w' := by
  have := take_any s w hs
  rw [h] at this
  exact this
theorem refTake_at (s : ByteArray) (a b c : Nat) (h : Count.takeL s.data.toList = (a, b, c)) (w : World) (hs : s.size ≤ maxLen) :
    Calls Try.prog 13 #[.string s] w fun e w' => e = .returned (.tuple #[.int .i64 (a : Int), .int .i64 (b : Int), .int .i64 (c : Int)]) ∧ Ext w w' := by
  have := refTake_any s w hs
  rw [h] at this
  exact this

set_option maxRecDepth 100000 in
set_option maxHeartbeats 400000 in
theorem count_awake (w : World) : Calls Try.prog 11 #[] w fun e w' => e = .returned (.bool true) ∧ Ext w w' := by
  go_enter Try.func11, Try.ntmps11
  go_wp2_with fail
  refine (take_at _ 300 2 0 take300 _ (by decide)).mono ?_
  rintro e w1 ⟨rfl, h1⟩
  go_wp2_with fail
  refine (put_at _ _ put300 _).mono ?_
  rintro e w2 ⟨rfl, h2⟩
  go_wp2_with fail
  refine (size_at _ 2 (by rw [put300]; rfl) _).mono ?_
  rintro e w3 ⟨rfl, h3⟩
  go_wp2
  go_ret
  exact ⟨rfl, (h1.trans h2).trans h3⟩

end Go.Proofs.Ytjpnicocihpocaa
