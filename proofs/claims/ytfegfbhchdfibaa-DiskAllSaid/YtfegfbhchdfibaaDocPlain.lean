/- A step upon the document's disk is a step upon the disk: plain. -/
import Derived.Test.YtfegfbhchdfibaaDocDo
import Derived.Test.YtfegfbhchdfibaaDiskGoodOps
namespace Go.Proofs.Ytfegfbhchdfibaa
open Go.RowKit

namespace DK
/-- Why the document says that a step can't be done. -/
noncomputable def rmay (d : D) (y : RStep) : Int :=
  if d.dead = true then 10
  else if okN y.name = false ∨ (y.kind = 2 ∧ okN y.to_ = false) then 1
  else if y.kind ≠ 0 ∧ has d.now y.name = false then 3
  else if y.kind < 2 ∧ (y.at_ < 0 ∨ ((get d.now y.name).size : Int) < y.at_) then 2
  else if y.kind = 0 ∧ fitsB d (doS d.now y.st) = false then 4
  else 0
/-- The program's step. -/
noncomputable def act (d : D) (y : RStep) : D × Int :=
  if y.kind = 0 then write d y.name y.at_ y.s else if y.kind = 1 then cut d y.name y.at_ else if y.kind = 2 then move d y.name y.to_ else drop d y.name
theorem mayE_one (b : Bool) (n : ByteArray) : mayE b [n] = if b = true then 10 else if okN n = false then 1 else 0 := by
  unfold mayE
  cases b with
  | true => simp
  | false => cases h : okN n <;> simp [h]
theorem mayE_two (b : Bool) (m n : ByteArray) : mayE b [m, n] = if b = true then 10 else if okN n = false ∨ okN m = false then 1 else 0 := by
  unfold mayE
  cases b with
  | true => simp
  | false => cases h : okN n <;> cases h2 : okN m <;> simp [h, h2]
theorem act_rmay (d : D) (y : RStep) (hk : 0 ≤ y.kind ∧ y.kind ≤ 3) : act d y = did d (rmay d y) y.st := by
  obtain ⟨kd, nm, tt, at', s⟩ := y
  have h4 : kd = 0 ∨ kd = 1 ∨ kd = 2 ∨ kd = 3 := by have := hk.1; have := hk.2; simp only at *; omega
  unfold act did rmay RStep.st
  simp only
  rcases h4 with rfl | rfl | rfl | rfl
  · unfold write
    simp only [mayE_one]
    cases d.dead <;> cases okN nm <;> by_cases h2 : at' < 0 ∨ ((get d.now nm).size : Int) < at' <;> cases hf : fitsB d (doS d.now (.write nm at'.toNat s)) <;> simp [h2, hf]
  · unfold cut did thereE
    simp only [mayE_one]
    cases d.dead <;> cases okN nm <;> cases has d.now nm <;> by_cases h2 : at' < 0 ∨ ((get d.now nm).size : Int) < at' <;> simp [h2]
  · unfold move did thereE
    simp only [mayE_two]
    cases d.dead <;> cases okN nm <;> cases okN tt <;> cases has d.now nm <;> simp
  · unfold drop did thereE
    simp only [mayE_one]
    cases d.dead <;> cases okN nm <;> cases has d.now nm <;> simp
end DK
end Go.Proofs.Ytfegfbhchdfibaa
