/-
  No cell of these rows narrows 'for every input' (looked for: loops, veiled, ifaces, maps, wideKeys, modest, calm, conditions, laid).
  DERIVED. THE GIVEN ROWS OF THIS SEAT. 5 by the template 'for every input the law returns true; each argument reads behind the call as it read before'; 0 by the template 'total and deterministic' (their statements: YtjpnicocihpocaaTotals.lean).
  GIVEN WITH THE SEED: the statements are not yours to turn. If you find one false, say at which input.
  Laid BY PROGRAM, IN A SANDBOX (cutbox-rows.mjs): the forced cells as the released guide's own fill.sh prints them over the translation a01409dc458cfac5… (all of the seat's roots in one cut). By AI agents, Wed Nov 11 2026. No macro, syntax, notation, axiom, sorry.
-/
import Derived.Test.YtjpnicocihpocaaChecked
import GoSem.Claim
import GoSem.ClaimJoined
import GoSem.ClaimMapViews
import Derived.JoinedTies
import Derived.KernelRfl
namespace Go.Proofs.Ytjpnicocihpocaa
/- THE CELL 'sum', in the pinned program and in every row, IS THE sha256 OF THE DUMP (.gsa) THAT YtjpnicocihpocaaProg.lean LOADS. Nothing in Lean hashes anything: it is a label: what it is worth is what the hold of that sum in a sandbox is worth. -/
noncomputable def Try.pinned : Pinned := { name := "ytjpnicocihpocaa", sum := "a01409dc458cfac53550ee9b6102505ea953348f7220cd10e4de4d2d5e73a79a", checked := Try.checked }
namespace Rows
def none {H : Type} : Left H := { results := [], args := [] }

/-- 'hearsaylaw01.CountPuts': WHATEVER THE INPUT: true; the input reads as it did. -/
def countPutsSpec : ChangeSpec := { name := "countPuts", fn := fun _ => fun
  | [d] => { results := [.lit (.bool true)], args := [d] }
  | _ => none }
def countPutsRow : OpenClaim := { program := "ytjpnicocihpocaa", sum := "a01409dc458cfac53550ee9b6102505ea953348f7220cd10e4de4d2d5e73a79a", func := "hearsay/hearsaylaw01.CountPuts", spec := "countPuts", unfollowed := true, recurses := true, apart := false }
def CountPutsSaid : Prop := countPutsRow.holds Try.pinned (OpenSpec.ofChange countPutsSpec)

/-- ITS FALSE NEIGHBOUR: 'it returns false'. Refute it at one input. -/
def countPutsWrong : ChangeSpec := { name := "countPuts", fn := fun _ => fun
  | [d] => { results := [.lit (.bool false)], args := [d] }
  | _ => none }
def CountPutsWrongFalsely : Prop := countPutsRow.holds Try.pinned (OpenSpec.ofChange countPutsWrong)

/-- 'hearsaylaw01.CountTakes': WHATEVER THE INPUT: true; the input reads as it did. -/
def countTakesSpec : ChangeSpec := { name := "countTakes", fn := fun _ => fun
  | [d] => { results := [.lit (.bool true)], args := [d] }
  | _ => none }
def countTakesRow : OpenClaim := { program := "ytjpnicocihpocaa", sum := "a01409dc458cfac53550ee9b6102505ea953348f7220cd10e4de4d2d5e73a79a", func := "hearsay/hearsaylaw01.CountTakes", spec := "countTakes", unfollowed := true, recurses := true, apart := false }
def CountTakesSaid : Prop := countTakesRow.holds Try.pinned (OpenSpec.ofChange countTakesSpec)

/-- ITS FALSE NEIGHBOUR: 'it returns false'. Refute it at one input. -/
def countTakesWrong : ChangeSpec := { name := "countTakes", fn := fun _ => fun
  | [d] => { results := [.lit (.bool false)], args := [d] }
  | _ => none }
def CountTakesWrongFalsely : Prop := countTakesRow.holds Try.pinned (OpenSpec.ofChange countTakesWrong)

/-- 'hearsaylaw01.CountBack': WHATEVER THE INPUT: true; the input reads as it did. -/
def countBackSpec : ChangeSpec := { name := "countBack", fn := fun _ => fun
  | [d1, d2] => { results := [.lit (.bool true)], args := [d1, d2] }
  | _ => none }
def countBackRow : OpenClaim := { program := "ytjpnicocihpocaa", sum := "a01409dc458cfac53550ee9b6102505ea953348f7220cd10e4de4d2d5e73a79a", func := "hearsay/hearsaylaw01.CountBack", spec := "countBack", unfollowed := true, recurses := true, apart := false }
def CountBackSaid : Prop := countBackRow.holds Try.pinned (OpenSpec.ofChange countBackSpec)

/-- ITS FALSE NEIGHBOUR: 'it returns false'. Refute it at one input. -/
def countBackWrong : ChangeSpec := { name := "countBack", fn := fun _ => fun
  | [d1, d2] => { results := [.lit (.bool false)], args := [d1, d2] }
  | _ => none }
def CountBackWrongFalsely : Prop := countBackRow.holds Try.pinned (OpenSpec.ofChange countBackWrong)

/-- 'hearsaylaw01.CountOne': WHATEVER THE INPUT: true; the input reads as it did. -/
def countOneSpec : ChangeSpec := { name := "countOne", fn := fun _ => fun
  | [d] => { results := [.lit (.bool true)], args := [d] }
  | _ => none }
def countOneRow : OpenClaim := { program := "ytjpnicocihpocaa", sum := "a01409dc458cfac53550ee9b6102505ea953348f7220cd10e4de4d2d5e73a79a", func := "hearsay/hearsaylaw01.CountOne", spec := "countOne", unfollowed := true, recurses := true, apart := false }
def CountOneSaid : Prop := countOneRow.holds Try.pinned (OpenSpec.ofChange countOneSpec)

/-- ITS FALSE NEIGHBOUR: 'it returns false'. Refute it at one input. -/
def countOneWrong : ChangeSpec := { name := "countOne", fn := fun _ => fun
  | [d] => { results := [.lit (.bool false)], args := [d] }
  | _ => none }
def CountOneWrongFalsely : Prop := countOneRow.holds Try.pinned (OpenSpec.ofChange countOneWrong)

/-- 'hearsaylaw01.CountGrows': WHATEVER THE INPUT: true; the input reads as it did. -/
def countGrowsSpec : ChangeSpec := { name := "countGrows", fn := fun _ => fun
  | [d1, d2] => { results := [.lit (.bool true)], args := [d1, d2] }
  | _ => none }
def countGrowsRow : OpenClaim := { program := "ytjpnicocihpocaa", sum := "a01409dc458cfac53550ee9b6102505ea953348f7220cd10e4de4d2d5e73a79a", func := "hearsay/hearsaylaw01.CountGrows", spec := "countGrows", unfollowed := true, recurses := true, apart := false }
def CountGrowsSaid : Prop := countGrowsRow.holds Try.pinned (OpenSpec.ofChange countGrowsSpec)

/-- ITS FALSE NEIGHBOUR: 'it returns false'. Refute it at one input. -/
def countGrowsWrong : ChangeSpec := { name := "countGrows", fn := fun _ => fun
  | [d1, d2] => { results := [.lit (.bool false)], args := [d1, d2] }
  | _ => none }
def CountGrowsWrongFalsely : Prop := countGrowsRow.holds Try.pinned (OpenSpec.ofChange countGrowsWrong)

/- THE SECOND FORM. 'bulk': how many values and letters a reading holds, each counted each time it is reached (what is shared counts as often as it is met; a slice's spare places count too). A statement '..UptoSaid' is the law's where the arguments, and the package variables that the reading takes, are together of bulk at most 1048576: NARROWER than '..Said'. Prove '..Said' where nothing that the law and all that it calls make is longer than what came in: it says more and counts as full. Else prove '..UptoSaid'. A law counts once. -/
mutual
def uptoBulk {H : Type} : DataW H → Nat
  | .lit (.string bytes) => bytes.length + 1
  | .lit _ => 1
  | .nil => 1
  | .ptr d => uptoBulk d + 1
  | .slice elems spare => uptoBulkAll elems + uptoBulkAll spare + 1
  | .agg parts => uptoBulkAll parts + 1
  | .iface _ d => uptoBulk d + 1
  | .map entries => uptoBulkEntries entries + 1
  | .held _ => 1
def uptoBulkAll {H : Type} : List (DataW H) → Nat
  | [] => 0
  | d :: r => uptoBulk d + uptoBulkAll r
def uptoBulkEntries {H : Type} : List (Lit × DataW H) → Nat
  | [] => 0
  | x :: r => uptoBulkEntry x + uptoBulkEntries r
def uptoBulkEntry {H : Type} : Lit × DataW H → Nat
  | (.string bytes, d) => bytes.length + uptoBulk d + 1
  | (_, d) => uptoBulk d + 1
 end
def uptoSmall : (H : Type) → List (DataW H) → Bool := fun _ ds => decide (uptoBulkAll ds ≤ 1048576)
def OpenSpec.upto (s : _root_.Go.ChangeSpec) : _root_.Go.OpenSpec := { _root_.Go.OpenSpec.ofChange s with cond := some uptoSmall }

/-- 'hearsaylaw01.CountPuts', WHERE WHAT IT READS IS OF BULK AT MOST 1048576: true; the input reads as it did. -/
def countPutsUptoRow : OpenClaim := { program := "ytjpnicocihpocaa", sum := "a01409dc458cfac53550ee9b6102505ea953348f7220cd10e4de4d2d5e73a79a", func := "hearsay/hearsaylaw01.CountPuts", spec := "countPuts", unfollowed := true, recurses := true, apart := false, narrowed := true }
def CountPutsUptoSaid : Prop := countPutsUptoRow.holds Try.pinned (OpenSpec.upto countPutsSpec)

/-- 'hearsaylaw01.CountTakes', WHERE WHAT IT READS IS OF BULK AT MOST 1048576: true; the input reads as it did. -/
def countTakesUptoRow : OpenClaim := { program := "ytjpnicocihpocaa", sum := "a01409dc458cfac53550ee9b6102505ea953348f7220cd10e4de4d2d5e73a79a", func := "hearsay/hearsaylaw01.CountTakes", spec := "countTakes", unfollowed := true, recurses := true, apart := false, narrowed := true }
def CountTakesUptoSaid : Prop := countTakesUptoRow.holds Try.pinned (OpenSpec.upto countTakesSpec)

/-- 'hearsaylaw01.CountBack', WHERE WHAT IT READS IS OF BULK AT MOST 1048576: true; the input reads as it did. -/
def countBackUptoRow : OpenClaim := { program := "ytjpnicocihpocaa", sum := "a01409dc458cfac53550ee9b6102505ea953348f7220cd10e4de4d2d5e73a79a", func := "hearsay/hearsaylaw01.CountBack", spec := "countBack", unfollowed := true, recurses := true, apart := false, narrowed := true }
def CountBackUptoSaid : Prop := countBackUptoRow.holds Try.pinned (OpenSpec.upto countBackSpec)

/-- 'hearsaylaw01.CountOne', WHERE WHAT IT READS IS OF BULK AT MOST 1048576: true; the input reads as it did. -/
def countOneUptoRow : OpenClaim := { program := "ytjpnicocihpocaa", sum := "a01409dc458cfac53550ee9b6102505ea953348f7220cd10e4de4d2d5e73a79a", func := "hearsay/hearsaylaw01.CountOne", spec := "countOne", unfollowed := true, recurses := true, apart := false, narrowed := true }
def CountOneUptoSaid : Prop := countOneUptoRow.holds Try.pinned (OpenSpec.upto countOneSpec)

/-- 'hearsaylaw01.CountGrows', WHERE WHAT IT READS IS OF BULK AT MOST 1048576: true; the input reads as it did. -/
def countGrowsUptoRow : OpenClaim := { program := "ytjpnicocihpocaa", sum := "a01409dc458cfac53550ee9b6102505ea953348f7220cd10e4de4d2d5e73a79a", func := "hearsay/hearsaylaw01.CountGrows", spec := "countGrows", unfollowed := true, recurses := true, apart := false, narrowed := true }
def CountGrowsUptoSaid : Prop := countGrowsUptoRow.holds Try.pinned (OpenSpec.upto countGrowsSpec)

end Rows
end Go.Proofs.Ytjpnicocihpocaa
