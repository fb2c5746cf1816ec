/- A disk stays one that may be behind Cut, Move and Drop: plain. -/
import Derived.Test.YtfegfbhchdfibaaDiskGood
import Derived.Test.YtfegfbhchdfibaaDiskOps
namespace Go.Proofs.Ytfegfbhchdfibaa
open Go.RowKit

namespace DK
theorem did_cases (d : D) (e : Int) (st : Step) : (e ≠ 0 ∧ did d e st = (d, e)) ∨ (e = 0 ∧ did d e st = (took d st, if (took d st).dead = true then 10 else 0)) := by
  by_cases h : e = 0
  · exact .inr ⟨h, by unfold did; rw [if_neg (by rw [h]; simp)]⟩
  · exact .inl ⟨h, by unfold did; rw [if_pos h]⟩
theorem Good.move {N : Nat} {d : D} (h : Good N d) (a b : ByteArray) (ha : a.size ≤ 2199023255552) (hb : b.size ≤ 2199023255552) : Good (N + a.size + b.size + 2) (move d a b).1 := by
  unfold DK.move
  rcases did_cases d (thereE d [b, a] a) (.move a b) with ⟨_, he⟩ | ⟨h0, he⟩
  · rw [he]; exact h.mono (by omega)
  · rw [he]; exact (h.took (there_live h0) (.move a b) ⟨ha, hb⟩).mono (by dsimp only [brings]; omega)
theorem Good.drop {N : Nat} {d : D} (h : Good N d) (a : ByteArray) (ha : a.size ≤ 2199023255552) : Good (N + a.size + 2) (drop d a).1 := by
  unfold DK.drop
  rcases did_cases d (thereE d [a] a) (.drop a) with ⟨_, he⟩ | ⟨h0, he⟩
  · rw [he]; exact h.mono (by omega)
  · rw [he]; exact (h.took (there_live h0) (.drop a) ha).mono (by dsimp only [brings]; omega)
theorem cut_cases (d : D) (a : ByteArray) (n : Int) : (∃ e, e ≠ 0 ∧ cut d a n = (d, e)) ∨ (thereE d [a] a = 0 ∧ ¬ (n < 0 ∨ ((get d.now a).size : Int) < n) ∧ cut d a n = (took d (.cut a n.toNat), if (took d (.cut a n.toNat)).dead = true then 10 else 0)) := by
  by_cases h1 : thereE d [a] a = 0
  · by_cases h2 : n < 0 ∨ ((get d.now a).size : Int) < n
    · exact .inl ⟨2, by omega, by unfold cut; rw [if_neg (by rw [h1]; simp), if_pos h2]⟩
    · exact .inr ⟨h1, h2, by unfold cut; rw [if_neg (by rw [h1]; simp), if_neg h2]; unfold did; rw [if_neg (by simp)]⟩
  · exact .inl ⟨_, h1, by unfold cut; rw [if_pos h1]⟩
theorem Good.cut {N : Nat} {d : D} (h : Good N d) (a : ByteArray) (n : Int) (ha : a.size ≤ 2199023255552) : Good (N + a.size + 2) (cut d a n).1 := by
  rcases cut_cases d a n with ⟨e, _, he⟩ | ⟨h1, h2, he⟩
  · rw [he]; exact h.mono (by omega)
  · rw [he]; exact (h.took (there_live h1) (.cut a n.toNat) ⟨by omega, ha⟩).mono (by dsimp only [brings]; omega)
end DK
end Go.Proofs.Ytfegfbhchdfibaa
