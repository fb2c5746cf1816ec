/-
  No cell of these rows narrows 'for every input' (looked for: loops, veiled, ifaces, maps, wideKeys, modest, calm, conditions, laid).
  DERIVED. THE GIVEN ROWS OF THIS SEAT. 4 by the template 'for every input the law returns true; each argument reads behind the call as it read before'; 0 by the template 'total and deterministic' (their statements: YtmdeepdediafbaaTotals.lean).
  GIVEN WITH THE SEED: the statements are not yours to turn. If you find one false, say at which input.
  Laid BY PROGRAM, IN A SANDBOX (cutbox-rows.mjs): the forced cells as the released guide's own fill.sh prints them over the translation 85c399f30be3116c… (all of the seat's roots in one cut). By AI agents, Wed Nov 11 2026. No macro, syntax, notation, axiom, sorry.
-/
import Derived.Test.YtmdeepdediafbaaChecked
import GoSem.Claim
import GoSem.ClaimJoined
import GoSem.ClaimMapViews
import Derived.JoinedTies
import Derived.KernelRfl
namespace Go.Proofs.Ytmdeepdediafbaa
/- THE CELL 'sum', in the pinned program and in every row, IS THE sha256 OF THE DUMP (.gsa) THAT YtmdeepdediafbaaProg.lean LOADS. Nothing in Lean hashes anything: it is a label: what it is worth is what the hold of that sum in a sandbox is worth. -/
noncomputable def Try.pinned : Pinned := { name := "ytmdeepdediafbaa", sum := "85c399f30be3116c5beabb09b42c401b3099bc9a3bf5027e8fa77e4164dd3e7e", checked := Try.checked }
namespace Rows
def none {H : Type} : Left H := { results := [], args := [] }

/-- 'hearsaylaw41.TallyCounts': WHATEVER THE INPUT: true; the input reads as it did. -/
def tallyCountsSpec : ChangeSpec := { name := "tallyCounts", fn := fun _ => fun
  | [d] => { results := [.lit (.bool true)], args := [d] }
  | _ => none }
def tallyCountsRow : OpenClaim := { program := "ytmdeepdediafbaa", sum := "85c399f30be3116c5beabb09b42c401b3099bc9a3bf5027e8fa77e4164dd3e7e", func := "hearsay/hearsaylaw41.TallyCounts", spec := "tallyCounts", unfollowed := true, recurses := true, apart := false }
def TallyCountsSaid : Prop := tallyCountsRow.holds Try.pinned (OpenSpec.ofChange tallyCountsSpec)

/-- ITS FALSE NEIGHBOUR: 'it returns false'. Refute it at one input. -/
def tallyCountsWrong : ChangeSpec := { name := "tallyCounts", fn := fun _ => fun
  | [d] => { results := [.lit (.bool false)], args := [d] }
  | _ => none }
def TallyCountsWrongFalsely : Prop := tallyCountsRow.holds Try.pinned (OpenSpec.ofChange tallyCountsWrong)

/-- 'hearsaylaw41.TallySame': WHATEVER THE INPUT: true; the input reads as it did. -/
def tallySameSpec : ChangeSpec := { name := "tallySame", fn := fun _ => fun
  | [d1, d2] => { results := [.lit (.bool true)], args := [d1, d2] }
  | _ => none }
def tallySameRow : OpenClaim := { program := "ytmdeepdediafbaa", sum := "85c399f30be3116c5beabb09b42c401b3099bc9a3bf5027e8fa77e4164dd3e7e", func := "hearsay/hearsaylaw41.TallySame", spec := "tallySame", unfollowed := true, recurses := true, apart := false }
def TallySameSaid : Prop := tallySameRow.holds Try.pinned (OpenSpec.ofChange tallySameSpec)

/-- ITS FALSE NEIGHBOUR: 'it returns false'. Refute it at one input. -/
def tallySameWrong : ChangeSpec := { name := "tallySame", fn := fun _ => fun
  | [d1, d2] => { results := [.lit (.bool false)], args := [d1, d2] }
  | _ => none }
def TallySameWrongFalsely : Prop := tallySameRow.holds Try.pinned (OpenSpec.ofChange tallySameWrong)

/-- 'hearsaylaw41.TallyTogether': WHATEVER THE INPUT: true; the input reads as it did. -/
def tallyTogetherSpec : ChangeSpec := { name := "tallyTogether", fn := fun _ => fun
  | [d1, d2] => { results := [.lit (.bool true)], args := [d1, d2] }
  | _ => none }
def tallyTogetherRow : OpenClaim := { program := "ytmdeepdediafbaa", sum := "85c399f30be3116c5beabb09b42c401b3099bc9a3bf5027e8fa77e4164dd3e7e", func := "hearsay/hearsaylaw41.TallyTogether", spec := "tallyTogether", unfollowed := true, recurses := true, apart := false }
def TallyTogetherSaid : Prop := tallyTogetherRow.holds Try.pinned (OpenSpec.ofChange tallyTogetherSpec)

/-- ITS FALSE NEIGHBOUR: 'it returns false'. Refute it at one input. -/
def tallyTogetherWrong : ChangeSpec := { name := "tallyTogether", fn := fun _ => fun
  | [d1, d2] => { results := [.lit (.bool false)], args := [d1, d2] }
  | _ => none }
def TallyTogetherWrongFalsely : Prop := tallyTogetherRow.holds Try.pinned (OpenSpec.ofChange tallyTogetherWrong)

/-- 'hearsaylaw41.TallyBusy': WHATEVER THE INPUT: true; the input reads as it did. -/
def tallyBusySpec : ChangeSpec := { name := "tallyBusy", fn := fun _ => fun
  | [d] => { results := [.lit (.bool true)], args := [d] }
  | _ => none }
def tallyBusyRow : OpenClaim := { program := "ytmdeepdediafbaa", sum := "85c399f30be3116c5beabb09b42c401b3099bc9a3bf5027e8fa77e4164dd3e7e", func := "hearsay/hearsaylaw41.TallyBusy", spec := "tallyBusy", unfollowed := true, recurses := true, apart := false }
def TallyBusySaid : Prop := tallyBusyRow.holds Try.pinned (OpenSpec.ofChange tallyBusySpec)

/-- ITS FALSE NEIGHBOUR: 'it returns false'. Refute it at one input. -/
def tallyBusyWrong : ChangeSpec := { name := "tallyBusy", fn := fun _ => fun
  | [d] => { results := [.lit (.bool false)], args := [d] }
  | _ => none }
def TallyBusyWrongFalsely : Prop := tallyBusyRow.holds Try.pinned (OpenSpec.ofChange tallyBusyWrong)

/- THE SECOND FORM. 'bulk': how many values and letters a reading holds, each counted each time it is reached (what is shared counts as often as it is met; a slice's spare places count too). A statement '..UptoSaid' is the law's where the arguments, and the package variables that the reading takes, are together of bulk at most 1048576: NARROWER than '..Said'. Prove '..Said' where nothing that the law and all that it calls make is longer than what came in: it says more and counts as full. Else prove '..UptoSaid'. A law counts once. -/
mutual
def uptoBulk {H : Type} : DataW H → Nat
  | .lit (.string bytes) => bytes.length + 1
  | .lit _ => 1
  | .nil => 1
  | .ptr d => uptoBulk d + 1
  | .slice elems spare => uptoBulkAll elems + uptoBulkAll spare + 1
  | .agg parts => uptoBulkAll parts + 1
  | .iface _ d => uptoBulk d + 1
  | .map entries => uptoBulkEntries entries + 1
  | .held _ => 1
def uptoBulkAll {H : Type} : List (DataW H) → Nat
  | [] => 0
  | d :: r => uptoBulk d + uptoBulkAll r
def uptoBulkEntries {H : Type} : List (Lit × DataW H) → Nat
  | [] => 0
  | x :: r => uptoBulkEntry x + uptoBulkEntries r
def uptoBulkEntry {H : Type} : Lit × DataW H → Nat
  | (.string bytes, d) => bytes.length + uptoBulk d + 1
  | (_, d) => uptoBulk d + 1
 end
def uptoSmall : (H : Type) → List (DataW H) → Bool := fun _ ds => decide (uptoBulkAll ds ≤ 1048576)
def OpenSpec.upto (s : _root_.Go.ChangeSpec) : _root_.Go.OpenSpec := { _root_.Go.OpenSpec.ofChange s with cond := some uptoSmall }

/-- 'hearsaylaw41.TallyCounts', WHERE WHAT IT READS IS OF BULK AT MOST 1048576: true; the input reads as it did. -/
def tallyCountsUptoRow : OpenClaim := { program := "ytmdeepdediafbaa", sum := "85c399f30be3116c5beabb09b42c401b3099bc9a3bf5027e8fa77e4164dd3e7e", func := "hearsay/hearsaylaw41.TallyCounts", spec := "tallyCounts", unfollowed := true, recurses := true, apart := false, narrowed := true }
def TallyCountsUptoSaid : Prop := tallyCountsUptoRow.holds Try.pinned (OpenSpec.upto tallyCountsSpec)

/-- 'hearsaylaw41.TallySame', WHERE WHAT IT READS IS OF BULK AT MOST 1048576: true; the input reads as it did. -/
def tallySameUptoRow : OpenClaim := { program := "ytmdeepdediafbaa", sum := "85c399f30be3116c5beabb09b42c401b3099bc9a3bf5027e8fa77e4164dd3e7e", func := "hearsay/hearsaylaw41.TallySame", spec := "tallySame", unfollowed := true, recurses := true, apart := false, narrowed := true }
def TallySameUptoSaid : Prop := tallySameUptoRow.holds Try.pinned (OpenSpec.upto tallySameSpec)

/-- 'hearsaylaw41.TallyTogether', WHERE WHAT IT READS IS OF BULK AT MOST 1048576: true; the input reads as it did. -/
def tallyTogetherUptoRow : OpenClaim := { program := "ytmdeepdediafbaa", sum := "85c399f30be3116c5beabb09b42c401b3099bc9a3bf5027e8fa77e4164dd3e7e", func := "hearsay/hearsaylaw41.TallyTogether", spec := "tallyTogether", unfollowed := true, recurses := true, apart := false, narrowed := true }
def TallyTogetherUptoSaid : Prop := tallyTogetherUptoRow.holds Try.pinned (OpenSpec.upto tallyTogetherSpec)

/-- 'hearsaylaw41.TallyBusy', WHERE WHAT IT READS IS OF BULK AT MOST 1048576: true; the input reads as it did. -/
def tallyBusyUptoRow : OpenClaim := { program := "ytmdeepdediafbaa", sum := "85c399f30be3116c5beabb09b42c401b3099bc9a3bf5027e8fa77e4164dd3e7e", func := "hearsay/hearsaylaw41.TallyBusy", spec := "tallyBusy", unfollowed := true, recurses := true, apart := false, narrowed := true }
def TallyBusyUptoSaid : Prop := tallyBusyUptoRow.holds Try.pinned (OpenSpec.upto tallyBusySpec)

end Rows
end Go.Proofs.Ytmdeepdediafbaa
