/- Small numbers as floating-point numbers: to and fro, and which is greater. -/
import Derived.Test.YtcnjklbmlplehaaChecked
import Derived.Laws.Cover3
import Derived.Laws.Cover2
import Derived.Laws.FloatArith
import Derived.WalkKit
import Derived.Lib.Hide
namespace Go.Proofs.Ytcnjklbmlplehaa
open Go.RowKit

/-- The bits of a number. -/
def fb (k : Nat) : Nat := floatOfInt .f64 (k : Int)

def ordOf (a b : Nat) : Ordering := if a < b then .lt else if a = b then .eq else .gt
theorem fb_all : ∀ a, a < 64 → ∀ b, b < 64 → FloatKind.f64.format.order (fb a) (fb b) = some (ordOf a b) := by decide +kernel
theorem fb_back : ∀ a, a < 64 → floatToIntVal .f64 (fb a) .i64 = some (a : Int) := by decide +kernel
theorem fb_order {a b : Nat} (ha : a < 64) (hb : b < 64) : FloatKind.f64.format.order (fb a) (fb b) = some (ordOf a b) := fb_all a ha b hb
theorem run_toInt {k : Nat} (hk : k < 64) (w : World) : (convert 66 3 (.float .f64 (fb k))).run Try.prog w = .ok (.int .i64 (k : Int)) w := by
  have h := fb_back k hk
  generalize fb k = b at *
  exact run_convert_float_int (P := Try.prog) (w := w) 66 3 .f64 .i64 b k (by rw [Try.underlying66]; rfl) Try.underlying3 h
end Go.Proofs.Ytcnjklbmlplehaa
