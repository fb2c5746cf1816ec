/- Slices of texts that came in: no text is greater than what memory reaches. -/
import Derived.Test.YthkccaifabpleaaStrs
import Derived.SizedLaws
namespace Go.Proofs.Ythkccaifabpleaa
open Go.ChangeShapes Go.WideShapes Go.ChangeAt Go.RowKit

theorem weightsAll_mem {H : Type} {P : Program} {e : TypeId} : ∀ (l : List ByteArray) (s : ByteArray), s ∈ l → s.size ∈ DataW.weightsAll (H := H) P e (strs l)
  | [], s, h => by cases h
  | a :: l, s, h => by
    simp only [strs, List.map_cons, DataW.weightsAll, List.mem_append]
    rcases List.mem_cons.1 h with rfl | h
    · left; simp [DataW.weights]
    · right; exact weightsAll_mem l s h

theorem texts_sized {H : Type} {enc : TypeId × Value → H} {P : Program} {w : World} {t e : TypeId} {v : Value} {d : DataW H} {ps : List MemPlace} {ts : List TypeId} {ds : List (DataW H)} {j : Nat}
    (ht : P.underlying t = some (.slice e)) (he : P.underlying e = some .string) (hc : P.cellsOf e = 1)
    (hok : Value.okWide P w .any 0 t v) (h : DataW.Trod enc P w 0 (fun _ => true) true t v d ps)
    (hsz : (DataW.weightsEach P ts ds).all (· ≤ reachBytes) = true) (hj : ts[j]? = some t) (hd : ds[j]? = some d) :
    ∃ p n c l, v = .slice p n c ∧ Texts w p n l ∧ (∀ s ∈ l, s.size ≤ 140737488351232) ∧ n ≤ c := by
  obtain ⟨a0, len, cap, rfl⟩ := okWide_slice ht hok
  obtain ⟨fuel, hf⟩ := h
  rcases open_strings ht he hc hf with ⟨hcs, hx⟩ | ⟨a, len', cap', ss, hcs, _, hl, hm, hz, hx, hcell, hws⟩
  · simp only [Value.cells] at hcs
    simp at hcs
    obtain ⟨rfl, rfl, rfl⟩ := hcs
    exact ⟨none, 0, 0, [], rfl, ⟨rfl, by unfold maxLen; omega, by simp, .inl rfl⟩, by simp, by omega⟩
  · simp only [Value.cells] at hcs
    simp at hcs
    obtain ⟨rfl, rfl, rfl⟩ := hcs
    simp only [if_true] at hz
    have hd' : d = .slice (strs (ss.take len)) (strs (ss.drop len)) := (Prod.mk.inj hx).1
    refine ⟨some a, len, cap, ss.take len, rfl, ⟨by simp; omega, by omega, fun s hs => hws s (List.mem_of_mem_take hs), ?_⟩, ?_, hl⟩
    · by_cases h0 : len = 0
      · exact .inl h0
      · right
        have h1 := hcell 0 (by omega)
        rw [add_zero] at h1
        have hs := cell_spot h1
        obtain ⟨b, off, sp⟩ := a
        simp only at hs
        subst hs
        refine ⟨b, off, rfl, fun i hi => ?_⟩
        have := hcell i (by simp at hi; omega)
        rw [add_none] at this
        rw [this]
        simp at hi
        simp [List.getD, List.getElem?_eq_getElem (show i < ss.length by omega)]
    · intro s hs
      have hm2 := DataW.weights_mem_each (P := P) hj hd s.size (by
        rw [hd']
        simp only [DataW.weights, ht, List.mem_cons, List.mem_append]
        exact .inr (.inl (weightsAll_mem _ s hs)))
      have := List.all_eq_true.1 hsz _ hm2
      exact of_decide_eq_true this

end Go.Proofs.Ythkccaifabpleaa
