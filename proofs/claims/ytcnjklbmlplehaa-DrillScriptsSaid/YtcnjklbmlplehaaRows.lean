/-
  No cell of these rows narrows 'for every input' (looked for: loops, veiled, ifaces, maps, wideKeys, modest, calm, conditions, laid).
  DERIVED. THE GIVEN ROWS OF THIS SEAT. 3 by the template 'for every input the law returns true; each argument reads behind the call as it read before'; 0 by the template 'total and deterministic' (their statements: YtcnjklbmlplehaaTotals.lean).
  GIVEN WITH THE SEED: the statements are not yours to turn. If you find one false, say at which input.
  Laid BY PROGRAM, IN A SANDBOX (cutbox-rows.mjs): the forced cells as the released guide's own fill.sh prints them over the translation 98a2ade0880e967e… (all of the seat's roots in one cut). By AI agents, Wed Nov 11 2026. No macro, syntax, notation, axiom, sorry.
-/
import Derived.Test.YtcnjklbmlplehaaChecked
import GoSem.Claim
import GoSem.ClaimJoined
import GoSem.ClaimMapViews
import Derived.JoinedTies
import Derived.KernelRfl
namespace Go.Proofs.Ytcnjklbmlplehaa
/- THE CELL 'sum', in the pinned program and in every row, IS THE sha256 OF THE DUMP (.gsa) THAT YtcnjklbmlplehaaProg.lean LOADS. Nothing in Lean hashes anything: it is a label: what it is worth is what the hold of that sum in a sandbox is worth. -/
noncomputable def Try.pinned : Pinned := { name := "ytcnjklbmlplehaa", sum := "98a2ade0880e967ecf64d497320b0e4b62b0dbb1768923f3bea25ebc9e91890c", checked := Try.checked }
namespace Rows
def none {H : Type} : Left H := { results := [], args := [] }

/-- 'hearsaylaw42.DrillKinds': WHATEVER THE INPUT: true; the input reads as it did. -/
def drillKindsSpec : ChangeSpec := { name := "drillKinds", fn := fun _ => fun
  | [d] => { results := [.lit (.bool true)], args := [d] }
  | _ => none }
def drillKindsRow : OpenClaim := { program := "ytcnjklbmlplehaa", sum := "98a2ade0880e967ecf64d497320b0e4b62b0dbb1768923f3bea25ebc9e91890c", func := "hearsay/hearsaylaw42.DrillKinds", spec := "drillKinds", unfollowed := true, recurses := true, apart := false }
def DrillKindsSaid : Prop := drillKindsRow.holds Try.pinned (OpenSpec.ofChange drillKindsSpec)

/-- ITS FALSE NEIGHBOUR: 'it returns false'. Refute it at one input. -/
def drillKindsWrong : ChangeSpec := { name := "drillKinds", fn := fun _ => fun
  | [d] => { results := [.lit (.bool false)], args := [d] }
  | _ => none }
def DrillKindsWrongFalsely : Prop := drillKindsRow.holds Try.pinned (OpenSpec.ofChange drillKindsWrong)

/-- 'hearsaylaw42.DrillAll': WHATEVER THE INPUT: true; the input reads as it did. -/
def drillAllSpec : ChangeSpec := { name := "drillAll", fn := fun _ => fun
  | [d] => { results := [.lit (.bool true)], args := [d] }
  | _ => none }
def drillAllRow : OpenClaim := { program := "ytcnjklbmlplehaa", sum := "98a2ade0880e967ecf64d497320b0e4b62b0dbb1768923f3bea25ebc9e91890c", func := "hearsay/hearsaylaw42.DrillAll", spec := "drillAll", unfollowed := true, recurses := true, apart := false }
def DrillAllSaid : Prop := drillAllRow.holds Try.pinned (OpenSpec.ofChange drillAllSpec)

/-- ITS FALSE NEIGHBOUR: 'it returns false'. Refute it at one input. -/
def drillAllWrong : ChangeSpec := { name := "drillAll", fn := fun _ => fun
  | [d] => { results := [.lit (.bool false)], args := [d] }
  | _ => none }
def DrillAllWrongFalsely : Prop := drillAllRow.holds Try.pinned (OpenSpec.ofChange drillAllWrong)

/-- 'hearsaylaw42.DrillScripts': WHATEVER THE INPUT: true; the input reads as it did. -/
def drillScriptsSpec : ChangeSpec := { name := "drillScripts", fn := fun _ => fun
  | [d1, d2, d3] => { results := [.lit (.bool true)], args := [d1, d2, d3] }
  | _ => none }
def drillScriptsRow : OpenClaim := { program := "ytcnjklbmlplehaa", sum := "98a2ade0880e967ecf64d497320b0e4b62b0dbb1768923f3bea25ebc9e91890c", func := "hearsay/hearsaylaw42.DrillScripts", spec := "drillScripts", unfollowed := true, recurses := true, apart := false }
def DrillScriptsSaid : Prop := drillScriptsRow.holds Try.pinned (OpenSpec.ofChange drillScriptsSpec)

/-- ITS FALSE NEIGHBOUR: 'it returns false'. Refute it at one input. -/
def drillScriptsWrong : ChangeSpec := { name := "drillScripts", fn := fun _ => fun
  | [d1, d2, d3] => { results := [.lit (.bool false)], args := [d1, d2, d3] }
  | _ => none }
def DrillScriptsWrongFalsely : Prop := drillScriptsRow.holds Try.pinned (OpenSpec.ofChange drillScriptsWrong)

/- THE SECOND FORM. 'bulk': how many values and letters a reading holds, each counted each time it is reached (what is shared counts as often as it is met; a slice's spare places count too). A statement '..UptoSaid' is the law's where the arguments, and the package variables that the reading takes, are together of bulk at most 1048576: NARROWER than '..Said'. Prove '..Said' where nothing that the law and all that it calls make is longer than what came in: it says more and counts as full. Else prove '..UptoSaid'. A law counts once. -/
mutual
def uptoBulk {H : Type} : DataW H → Nat
  | .lit (.string bytes) => bytes.length + 1
  | .lit _ => 1
  | .nil => 1
  | .ptr d => uptoBulk d + 1
  | .slice elems spare => uptoBulkAll elems + uptoBulkAll spare + 1
  | .agg parts => uptoBulkAll parts + 1
  | .iface _ d => uptoBulk d + 1
  | .map entries => uptoBulkEntries entries + 1
  | .held _ => 1
def uptoBulkAll {H : Type} : List (DataW H) → Nat
  | [] => 0
  | d :: r => uptoBulk d + uptoBulkAll r
def uptoBulkEntries {H : Type} : List (Lit × DataW H) → Nat
  | [] => 0
  | x :: r => uptoBulkEntry x + uptoBulkEntries r
def uptoBulkEntry {H : Type} : Lit × DataW H → Nat
  | (.string bytes, d) => bytes.length + uptoBulk d + 1
  | (_, d) => uptoBulk d + 1
 end
def uptoSmall : (H : Type) → List (DataW H) → Bool := fun _ ds => decide (uptoBulkAll ds ≤ 1048576)
def OpenSpec.upto (s : _root_.Go.ChangeSpec) : _root_.Go.OpenSpec := { _root_.Go.OpenSpec.ofChange s with cond := some uptoSmall }

/-- 'hearsaylaw42.DrillKinds', WHERE WHAT IT READS IS OF BULK AT MOST 1048576: true; the input reads as it did. -/
def drillKindsUptoRow : OpenClaim := { program := "ytcnjklbmlplehaa", sum := "98a2ade0880e967ecf64d497320b0e4b62b0dbb1768923f3bea25ebc9e91890c", func := "hearsay/hearsaylaw42.DrillKinds", spec := "drillKinds", unfollowed := true, recurses := true, apart := false, narrowed := true }
def DrillKindsUptoSaid : Prop := drillKindsUptoRow.holds Try.pinned (OpenSpec.upto drillKindsSpec)

/-- 'hearsaylaw42.DrillAll', WHERE WHAT IT READS IS OF BULK AT MOST 1048576: true; the input reads as it did. -/
def drillAllUptoRow : OpenClaim := { program := "ytcnjklbmlplehaa", sum := "98a2ade0880e967ecf64d497320b0e4b62b0dbb1768923f3bea25ebc9e91890c", func := "hearsay/hearsaylaw42.DrillAll", spec := "drillAll", unfollowed := true, recurses := true, apart := false, narrowed := true }
def DrillAllUptoSaid : Prop := drillAllUptoRow.holds Try.pinned (OpenSpec.upto drillAllSpec)

/-- 'hearsaylaw42.DrillScripts', WHERE WHAT IT READS IS OF BULK AT MOST 1048576: true; the input reads as it did. -/
def drillScriptsUptoRow : OpenClaim := { program := "ytcnjklbmlplehaa", sum := "98a2ade0880e967ecf64d497320b0e4b62b0dbb1768923f3bea25ebc9e91890c", func := "hearsay/hearsaylaw42.DrillScripts", spec := "drillScripts", unfollowed := true, recurses := true, apart := false, narrowed := true }
def DrillScriptsUptoSaid : Prop := drillScriptsUptoRow.holds Try.pinned (OpenSpec.upto drillScriptsSpec)

end Rows
end Go.Proofs.Ytcnjklbmlplehaa
