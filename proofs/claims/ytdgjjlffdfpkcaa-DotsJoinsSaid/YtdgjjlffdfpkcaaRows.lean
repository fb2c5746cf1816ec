/-
  No cell of these rows narrows 'for every input' (looked for: loops, veiled, ifaces, maps, wideKeys, modest, calm, conditions, laid).
  DERIVED. THE GIVEN ROWS OF THIS SEAT. 5 by the template 'for every input the law returns true; each argument reads behind the call as it read before'; 0 by the template 'total and deterministic' (their statements: YtdgjjlffdfpkcaaTotals.lean).
  GIVEN WITH THE SEED: the statements are not yours to turn. If you find one false, say at which input.
  Laid BY PROGRAM, IN A SANDBOX (cutbox-rows.mjs): the forced cells as the released guide's own fill.sh prints them over the translation 6a0642c5d521c775… (all of the seat's roots in one cut). By AI agents, Wed Nov 11 2026. No macro, syntax, notation, axiom, sorry.
-/
import Derived.Test.YtdgjjlffdfpkcaaChecked
import GoSem.Claim
import GoSem.ClaimJoined
import GoSem.ClaimMapViews
import Derived.JoinedTies
import Derived.KernelRfl
namespace Go.Proofs.Ytdgjjlffdfpkcaa
/- THE CELL 'sum', in the pinned program and in every row, IS THE sha256 OF THE DUMP (.gsa) THAT YtdgjjlffdfpkcaaProg.lean LOADS. Nothing in Lean hashes anything: it is a label: what it is worth is what the hold of that sum in a sandbox is worth. -/
noncomputable def Try.pinned : Pinned := { name := "ytdgjjlffdfpkcaa", sum := "6a0642c5d521c7759ab745f163570bb0982d090df750871b9ac471f005e680c0", checked := Try.checked }
namespace Rows
def none {H : Type} : Left H := { results := [], args := [] }

/-- 'hearsaylaw06.DotsCheck': WHATEVER THE INPUT: true; the input reads as it did. -/
def dotsCheckSpec : ChangeSpec := { name := "dotsCheck", fn := fun _ => fun
  | [d1, d2, d3] => { results := [.lit (.bool true)], args := [d1, d2, d3] }
  | _ => none }
def dotsCheckRow : OpenClaim := { program := "ytdgjjlffdfpkcaa", sum := "6a0642c5d521c7759ab745f163570bb0982d090df750871b9ac471f005e680c0", func := "hearsay/hearsaylaw06.DotsCheck", spec := "dotsCheck", inPlace := ["slices.overlaps[hearsay/api.Dot]"], unfollowed := true, recurses := true, apart := false }
def DotsCheckSaid : Prop := dotsCheckRow.holds Try.pinned (OpenSpec.ofChange dotsCheckSpec)

/-- ITS FALSE NEIGHBOUR: 'it returns false'. Refute it at one input. -/
def dotsCheckWrong : ChangeSpec := { name := "dotsCheck", fn := fun _ => fun
  | [d1, d2, d3] => { results := [.lit (.bool false)], args := [d1, d2, d3] }
  | _ => none }
def DotsCheckWrongFalsely : Prop := dotsCheckRow.holds Try.pinned (OpenSpec.ofChange dotsCheckWrong)

/-- 'hearsaylaw06.DotsAdds': WHATEVER THE INPUT: true; the input reads as it did. -/
def dotsAddsSpec : ChangeSpec := { name := "dotsAdds", fn := fun _ => fun
  | [d1, d2] => { results := [.lit (.bool true)], args := [d1, d2] }
  | _ => none }
def dotsAddsRow : OpenClaim := { program := "ytdgjjlffdfpkcaa", sum := "6a0642c5d521c7759ab745f163570bb0982d090df750871b9ac471f005e680c0", func := "hearsay/hearsaylaw06.DotsAdds", spec := "dotsAdds", inPlace := ["slices.overlaps[hearsay/api.Dot]"], unfollowed := true, recurses := true, apart := false }
def DotsAddsSaid : Prop := dotsAddsRow.holds Try.pinned (OpenSpec.ofChange dotsAddsSpec)

/-- ITS FALSE NEIGHBOUR: 'it returns false'. Refute it at one input. -/
def dotsAddsWrong : ChangeSpec := { name := "dotsAdds", fn := fun _ => fun
  | [d1, d2] => { results := [.lit (.bool false)], args := [d1, d2] }
  | _ => none }
def DotsAddsWrongFalsely : Prop := dotsAddsRow.holds Try.pinned (OpenSpec.ofChange dotsAddsWrong)

/-- 'hearsaylaw06.DotsOrder': WHATEVER THE INPUT: true; the input reads as it did. -/
def dotsOrderSpec : ChangeSpec := { name := "dotsOrder", fn := fun _ => fun
  | [d1, d2] => { results := [.lit (.bool true)], args := [d1, d2] }
  | _ => none }
def dotsOrderRow : OpenClaim := { program := "ytdgjjlffdfpkcaa", sum := "6a0642c5d521c7759ab745f163570bb0982d090df750871b9ac471f005e680c0", func := "hearsay/hearsaylaw06.DotsOrder", spec := "dotsOrder", inPlace := ["slices.overlaps[hearsay/api.Dot]"], unfollowed := true, recurses := true, apart := false }
def DotsOrderSaid : Prop := dotsOrderRow.holds Try.pinned (OpenSpec.ofChange dotsOrderSpec)

/-- ITS FALSE NEIGHBOUR: 'it returns false'. Refute it at one input. -/
def dotsOrderWrong : ChangeSpec := { name := "dotsOrder", fn := fun _ => fun
  | [d1, d2] => { results := [.lit (.bool false)], args := [d1, d2] }
  | _ => none }
def DotsOrderWrongFalsely : Prop := dotsOrderRow.holds Try.pinned (OpenSpec.ofChange dotsOrderWrong)

/-- 'hearsaylaw06.DotsGaps': WHATEVER THE INPUT: true; the input reads as it did. -/
def dotsGapsSpec : ChangeSpec := { name := "dotsGaps", fn := fun _ => fun
  | [d] => { results := [.lit (.bool true)], args := [d] }
  | _ => none }
def dotsGapsRow : OpenClaim := { program := "ytdgjjlffdfpkcaa", sum := "6a0642c5d521c7759ab745f163570bb0982d090df750871b9ac471f005e680c0", func := "hearsay/hearsaylaw06.DotsGaps", spec := "dotsGaps", inPlace := ["slices.overlaps[hearsay/api.Dot]"], unfollowed := true, recurses := true, apart := false }
def DotsGapsSaid : Prop := dotsGapsRow.holds Try.pinned (OpenSpec.ofChange dotsGapsSpec)

/-- ITS FALSE NEIGHBOUR: 'it returns false'. Refute it at one input. -/
def dotsGapsWrong : ChangeSpec := { name := "dotsGaps", fn := fun _ => fun
  | [d] => { results := [.lit (.bool false)], args := [d] }
  | _ => none }
def DotsGapsWrongFalsely : Prop := dotsGapsRow.holds Try.pinned (OpenSpec.ofChange dotsGapsWrong)

/-- 'hearsaylaw06.DotsJoins': WHATEVER THE INPUT: true; the input reads as it did. -/
def dotsJoinsSpec : ChangeSpec := { name := "dotsJoins", fn := fun _ => fun
  | [d1, d2] => { results := [.lit (.bool true)], args := [d1, d2] }
  | _ => none }
def dotsJoinsRow : OpenClaim := { program := "ytdgjjlffdfpkcaa", sum := "6a0642c5d521c7759ab745f163570bb0982d090df750871b9ac471f005e680c0", func := "hearsay/hearsaylaw06.DotsJoins", spec := "dotsJoins", inPlace := ["slices.overlaps[hearsay/api.Dot]"], unfollowed := true, recurses := true, apart := false }
def DotsJoinsSaid : Prop := dotsJoinsRow.holds Try.pinned (OpenSpec.ofChange dotsJoinsSpec)

/-- ITS FALSE NEIGHBOUR: 'it returns false'. Refute it at one input. -/
def dotsJoinsWrong : ChangeSpec := { name := "dotsJoins", fn := fun _ => fun
  | [d1, d2] => { results := [.lit (.bool false)], args := [d1, d2] }
  | _ => none }
def DotsJoinsWrongFalsely : Prop := dotsJoinsRow.holds Try.pinned (OpenSpec.ofChange dotsJoinsWrong)

/- THE SECOND FORM. 'bulk': how many values and letters a reading holds, each counted each time it is reached (what is shared counts as often as it is met; a slice's spare places count too). A statement '..UptoSaid' is the law's where the arguments, and the package variables that the reading takes, are together of bulk at most 1048576: NARROWER than '..Said'. Prove '..Said' where nothing that the law and all that it calls make is longer than what came in: it says more and counts as full. Else prove '..UptoSaid'. A law counts once. -/
mutual
def uptoBulk {H : Type} : DataW H → Nat
  | .lit (.string bytes) => bytes.length + 1
  | .lit _ => 1
  | .nil => 1
  | .ptr d => uptoBulk d + 1
  | .slice elems spare => uptoBulkAll elems + uptoBulkAll spare + 1
  | .agg parts => uptoBulkAll parts + 1
  | .iface _ d => uptoBulk d + 1
  | .map entries => uptoBulkEntries entries + 1
  | .held _ => 1
def uptoBulkAll {H : Type} : List (DataW H) → Nat
  | [] => 0
  | d :: r => uptoBulk d + uptoBulkAll r
def uptoBulkEntries {H : Type} : List (Lit × DataW H) → Nat
  | [] => 0
  | x :: r => uptoBulkEntry x + uptoBulkEntries r
def uptoBulkEntry {H : Type} : Lit × DataW H → Nat
  | (.string bytes, d) => bytes.length + uptoBulk d + 1
  | (_, d) => uptoBulk d + 1
 end
def uptoSmall : (H : Type) → List (DataW H) → Bool := fun _ ds => decide (uptoBulkAll ds ≤ 1048576)
def OpenSpec.upto (s : _root_.Go.ChangeSpec) : _root_.Go.OpenSpec := { _root_.Go.OpenSpec.ofChange s with cond := some uptoSmall }

/-- 'hearsaylaw06.DotsCheck', WHERE WHAT IT READS IS OF BULK AT MOST 1048576: true; the input reads as it did. -/
def dotsCheckUptoRow : OpenClaim := { program := "ytdgjjlffdfpkcaa", sum := "6a0642c5d521c7759ab745f163570bb0982d090df750871b9ac471f005e680c0", func := "hearsay/hearsaylaw06.DotsCheck", spec := "dotsCheck", inPlace := ["slices.overlaps[hearsay/api.Dot]"], unfollowed := true, recurses := true, apart := false, narrowed := true }
def DotsCheckUptoSaid : Prop := dotsCheckUptoRow.holds Try.pinned (OpenSpec.upto dotsCheckSpec)

/-- 'hearsaylaw06.DotsAdds', WHERE WHAT IT READS IS OF BULK AT MOST 1048576: true; the input reads as it did. -/
def dotsAddsUptoRow : OpenClaim := { program := "ytdgjjlffdfpkcaa", sum := "6a0642c5d521c7759ab745f163570bb0982d090df750871b9ac471f005e680c0", func := "hearsay/hearsaylaw06.DotsAdds", spec := "dotsAdds", inPlace := ["slices.overlaps[hearsay/api.Dot]"], unfollowed := true, recurses := true, apart := false, narrowed := true }
def DotsAddsUptoSaid : Prop := dotsAddsUptoRow.holds Try.pinned (OpenSpec.upto dotsAddsSpec)

/-- 'hearsaylaw06.DotsOrder', WHERE WHAT IT READS IS OF BULK AT MOST 1048576: true; the input reads as it did. -/
def dotsOrderUptoRow : OpenClaim := { program := "ytdgjjlffdfpkcaa", sum := "6a0642c5d521c7759ab745f163570bb0982d090df750871b9ac471f005e680c0", func := "hearsay/hearsaylaw06.DotsOrder", spec := "dotsOrder", inPlace := ["slices.overlaps[hearsay/api.Dot]"], unfollowed := true, recurses := true, apart := false, narrowed := true }
def DotsOrderUptoSaid : Prop := dotsOrderUptoRow.holds Try.pinned (OpenSpec.upto dotsOrderSpec)

/-- 'hearsaylaw06.DotsGaps', WHERE WHAT IT READS IS OF BULK AT MOST 1048576: true; the input reads as it did. -/
def dotsGapsUptoRow : OpenClaim := { program := "ytdgjjlffdfpkcaa", sum := "6a0642c5d521c7759ab745f163570bb0982d090df750871b9ac471f005e680c0", func := "hearsay/hearsaylaw06.DotsGaps", spec := "dotsGaps", inPlace := ["slices.overlaps[hearsay/api.Dot]"], unfollowed := true, recurses := true, apart := false, narrowed := true }
def DotsGapsUptoSaid : Prop := dotsGapsUptoRow.holds Try.pinned (OpenSpec.upto dotsGapsSpec)

/-- 'hearsaylaw06.DotsJoins', WHERE WHAT IT READS IS OF BULK AT MOST 1048576: true; the input reads as it did. -/
def dotsJoinsUptoRow : OpenClaim := { program := "ytdgjjlffdfpkcaa", sum := "6a0642c5d521c7759ab745f163570bb0982d090df750871b9ac471f005e680c0", func := "hearsay/hearsaylaw06.DotsJoins", spec := "dotsJoins", inPlace := ["slices.overlaps[hearsay/api.Dot]"], unfollowed := true, recurses := true, apart := false, narrowed := true }
def DotsJoinsUptoSaid : Prop := dotsJoinsUptoRow.holds Try.pinned (OpenSpec.upto dotsJoinsSpec)

end Rows
end Go.Proofs.Ytdgjjlffdfpkcaa
