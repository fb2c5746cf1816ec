/- The row of DotsJoins: for every input the call answers true, and each argument reads as it read. No condition. -/
import Derived.Test.YtdgjjlffdfpkcaaRows
import Derived.Test.YtdgjjlffdfpkcaaLaw
import Derived.Test.YtdgjjlffdfpkcaaLawJoins
import Derived.ShutString
namespace Go.Proofs.Ytdgjjlffdfpkcaa.dotsJoins
open Go.ChangeShapes Go.WideShapes Go.ChangeAt Go.RowKit
open Go.ChangeMaps (open_string shut_string)
set_option linter.unusedVariables false

theorem own : ownKnob Try.prog.godebug = none := by kernel_rfl
theorem laid : laidOutB Try.prog = true := by kernel_rfl
theorem params_read : ∀ t ∈ Try.f7.params.toList, Try.prog.readableRec t = true ∧ t < Try.prog.types.size := by
  rw [Try.params7]
  intro t ht
  simp only [List.mem_cons, List.not_mem_nil, or_false] at ht
  rcases ht with rfl | rfl
  all_goals exact ⟨by kernel_rfl, of_decide_eq_true (by kernel_rfl)⟩

set_option maxRecDepth 100000 in
theorem lifted (os : Os) (started : os.Started) (H : Type) (enc : TypeId × Value → H) :
    ReturnsInHanded {} Try.checked os 7 .any (Rows.dotsJoinsSpec.pre6 enc Try.prog Try.f7 Rows.dotsJoinsRow.domain false) (Rows.dotsJoinsSpec.post enc Try.prog Try.f7 false true false false) := by
  refine returnsInHanded_of_change (C := Try.checked) own started (by kernel_rfl) Try.func7
    (ChangeSpec.witness6 (enc := enc) (C := Try.checked) false ⟨#[], #[.agg #[.slice none 0 0, .slice none 0 0], .agg #[.slice none 0 0, .slice none 0 0]], []⟩ 8 (by kernel_rfl) (by kernel_rfl) (by kernel_rfl) (by kernel_rfl)) ?_
  intro W base args ds gs before hval0 hW hcnd _
  have hval : ∀ (j : Nat) t v, Try.f7.params[j]? = some t → args[j]? = some v → Value.okWide Try.prog W .any base t v := hval0
  have hW' := hW
  obtain ⟨p, q, hA0, hV, rfl, hfz, hnd⟩ := hW
  have hA : DataW.TrodAll enc Try.prog W 0 (fun _ => true) true Try.f7.params.toList args.toList ds p := hA0
  rw [Try.params7] at hA hval
  obtain ⟨v0, vs0, d0, ds0, p0, q0, hargs, rfl, rfl, h0, r0⟩ := trodAll_cons hA
  obtain ⟨v1, vs1, d1, ds1, p1, q1, rfl, rfl, rfl, h1, r1⟩ := trodAll_cons r0
  obtain ⟨rfl, rfl, rfl⟩ := trodAll_nil r1
  obtain rfl : args = #[v0, v1] := by cases args; simp_all
  obtain ⟨rfl, rfl⟩ := trodVars_none hV
  obtain ⟨p0x, n0, c0, l0, p0y, n0y, c0y, l0y, rfl, k0, m0, ev0, k0y, m0y, ev0y⟩ := set_of_open rfl (hval 0 24 v0 rfl rfl) h0
  obtain ⟨p1x, n1, c1, l1, p1y, n1y, c1y, l1y, rfl, k1, m1, ev1, k1y, m1y, ev1y⟩ := set_of_open rfl (hval 1 24 v1 rfl rfl) h1
  clear hA0 hval0
  refine (law_joins p0x p0y p1x p1y n0 c0 n0y c0y n1 c1 n1y c1y l0 l0y l1 l1y W k0 m0 ev0 k0y m0y ev0y k1 m1 ev1 k1y m1y ev1y).mono fun e W' ⟨he, hg⟩ => ?_
  exact ⟨_, he, law_post laid rfl rfl Try.underlying4 params_read hW' rfl hg⟩

theorem over : Rows.dotsJoinsRow.holds Try.pinned (OpenSpec.ofChange Rows.dotsJoinsSpec) :=
  OpenClaim.holds_of_wide 7 Try.f7 rfl rfl rfl rfl rfl rfl rfl ⟨rfl, rfl, rfl, rfl, rfl⟩ rfl rfl rfl rfl rfl (by kernel_rfl) Try.func7 (by kernel_rfl)
    (of_decide_eq_true (by kernel_rfl)) (by unfold Func.isWrapper; first | (rw [if_pos (by decide +kernel)]; kernel_rfl) | (rw [if_neg (by decide +kernel)]; exact ⟨rfl, rfl⟩))
    (fun os started H enc _ => lifted os started H enc)

theorem proved : Rows.DotsJoinsSaid :=
  over
#print axioms proved
end Go.Proofs.Ytdgjjlffdfpkcaa.dotsJoins
