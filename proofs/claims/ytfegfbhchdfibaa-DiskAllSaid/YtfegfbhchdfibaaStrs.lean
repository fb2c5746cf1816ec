/- Slices of texts that came in: what their cells hold. -/
import Derived.Test.YtfegfbhchdfibaaMem
import Derived.ProofKit
import Derived.SliceStrings
namespace Go.Proofs.Ytfegfbhchdfibaa
open Go.ChangeShapes Go.WideShapes Go.ChangeAt Go.RowKit

/-- The cells of a block, from a place on, hold texts. -/
def StrsAt (w : World) (b off : Nat) (l : List ByteArray) : Prop := ∀ i (h : i < l.length), w.cell? ⟨b, off + i, none⟩ = some (.string l[i])

theorem StrsAt.ext {w w' : World} {b off : Nat} {l : List ByteArray} (h : StrsAt w b off l) (he : Ext w w') : StrsAt w' b off l :=
  fun i hi => he.cell (h i hi)

/-- A slice value that reads as a list of texts. -/
def Texts (w : World) (p : Option Addr) (n : Nat) (l : List ByteArray) : Prop :=
  l.length = n ∧ n ≤ maxLen ∧ (∀ s ∈ l, s.size ≤ maxLen) ∧ (n = 0 ∨ ∃ b off, p = some ⟨b, off, none⟩ ∧ StrsAt w b off l)

theorem cell_spot {w : World} {a : Addr} {v : Value} (h : w.cell? a = some v) : a.spot = none := by
  unfold World.cell? at h
  split at h
  · cases hs : a.spot with
    | none => rfl
    | some x => simp [hs] at h
  · cases h

theorem add_zero (a : Addr) : a.add 0 = a := by simp [Addr.add]

theorem add_none (b off i : Nat) : (⟨b, off, none⟩ : Addr).add i = ⟨b, off + i, none⟩ := by unfold Addr.add; split <;> simp_all

theorem texts_of_open {H : Type} {enc : TypeId × Value → H} {P : Program} {w : World} {t e : TypeId} {v : Value} {d : DataW H} {ps : List MemPlace}
    (ht : P.underlying t = some (.slice e)) (he : P.underlying e = some .string) (hc : P.cellsOf e = 1)
    (hok : Value.okWide P w .any 0 t v) (h : DataW.Trod enc P w 0 (fun _ => true) true t v d ps) :
    ∃ p n c l, v = .slice p n c ∧ Texts w p n l := by
  obtain ⟨a0, len, cap, rfl⟩ := okWide_slice ht hok
  obtain ⟨fuel, hf⟩ := h
  rcases open_strings ht he hc hf with ⟨hcs, hx⟩ | ⟨a, len', cap', ss, hcs, _, hl, hm, hz, hx, hcell, hws⟩
  · simp only [Value.cells] at hcs
    simp at hcs
    obtain ⟨rfl, rfl, rfl⟩ := hcs
    exact ⟨none, 0, 0, [], rfl, rfl, by unfold maxLen; omega, by simp, .inl rfl⟩
  · simp only [Value.cells] at hcs
    simp at hcs
    obtain ⟨rfl, rfl, rfl⟩ := hcs
    simp only [if_true] at hz
    refine ⟨some a, len, cap, ss.take len, rfl, by simp; omega, by omega, fun s hs => hws s (List.mem_of_mem_take hs), ?_⟩
    by_cases h0 : len = 0
    · exact .inl h0
    · right
      have h1 := hcell 0 (by omega)
      rw [add_zero] at h1
      have hs := cell_spot h1
      obtain ⟨b, off, sp⟩ := a
      simp only at hs
      subst hs
      refine ⟨b, off, rfl, fun i hi => ?_⟩
      have := hcell i (by simp at hi; omega)
      rw [add_none] at this
      rw [this]
      simp at hi
      simp [List.getD, List.getElem?_eq_getElem (show i < ss.length by omega)]

end Go.Proofs.Ytfegfbhchdfibaa
