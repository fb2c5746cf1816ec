/- Dots that are added in two orders: plain. -/
import Derived.Test.YtdgjjlffdfpkcaaSetBox
namespace Go.Proofs.Ytdgjjlffdfpkcaa
namespace DS

theorem has_ok {s : S} (h : Ok s) (d : Dot) : has s d = decide (Has s d) := by unfold has; rw [check_ok.2 h, decide_eq_true rfl, Bool.true_and]
/-- Whether a dot is there behind an Add. -/
theorem has_step {s : S} (h : Ok s) (d x : Dot) : (has s x || (decide (d = x) && has (add s d).1 x)) = has (add s d).1 x := by
  rw [has_ok h, has_ok (add_ok d h)]
  by_cases h1 : Has s x
  · rw [decide_eq_true h1, decide_eq_true ((add_has d h x).2 (.inr h1))]; rfl
  · by_cases h2 : Has (add s d).1 x
    · rcases (add_has d h x).1 h2 with ⟨rfl, _⟩ | h3
      · rw [decide_eq_true h2, decide_eq_false h1, decide_eq_true rfl]; rfl
      · exact absurd h3 h1
    · rw [decide_eq_false h1, decide_eq_false h2, Bool.and_false]; rfl
/-- Both orders come to the same. -/
theorem adds_reverse (l : List Dot) : adds none l = adds none l.reverse := adds_same none_ok fun x => List.mem_reverse.symm
theorem size_bound (l : List Dot) : 0 ≤ size (adds none l) ∧ size (adds none l) ≤ 67108864 + l.length := by
  have hok := adds_ok none_ok l
  have h1 := tot_bound hok.vec
  have h2 := adds_extra none_ok l
  have h0 : none.extra.length = 0 := rfl
  unfold size
  omega
theorem none_hasnot (d : Dot) : has none d = false := by rw [has_ok none_ok, decide_eq_false (none_has d)]
theorem extra_take (l : List Dot) (k : Nat) : (adds none (l.take k)).extra.length ≤ k := by
  have := adds_extra none_ok (l.take k)
  have h0 : none.extra.length = 0 := rfl
  rw [List.length_take] at this
  omega
end DS
end Go.Proofs.Ytdgjjlffdfpkcaa
