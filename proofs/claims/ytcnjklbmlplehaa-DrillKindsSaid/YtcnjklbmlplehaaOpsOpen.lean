/- An argument that is a list of operations opens to its cells. -/
import Derived.Test.YtcnjklbmlplehaaOpsMem
import Derived.Test.YtcnjklbmlplehaaIntsOpen
namespace Go.Proofs.Ytcnjklbmlplehaa
open Go.ChangeShapes Go.WideShapes Go.ChangeAt Go.RowKit Go.Deep

/-- Operations behind a slice, of whatever length. -/
def OpsW (w : World) (p : Option Addr) (n : Nat) (l : List OpV) : Prop := l.length = n ∧ (n = 0 ∨ ∃ b off, p = some ⟨b, off, none⟩ ∧ OpsAt w b off l)

namespace DS
section
variable {H : Type} {enc : TypeId × Value → H} {w : World} {base : Nat} {spare : Nat → Bool} {held : Bool}
set_option maxRecDepth 100000 in
theorem op_of {fuel : Nat} {cs : List Value} {x : DataW H × List MemPlace} (h : DataW.trod enc Try.prog w base spare held fuel 43 cs = some x) :
    ∃ y : OpV, cs = (opCells y).toList := by
  obtain ⟨xs, n, _, _, hl, hx, hf⟩ := DataW.trod_struct Try.underlying43 h
  rw [show Try.prog.cellsOf 43 = 8 by kernel_rfl] at hl
  have ci : Try.prog.cellsOf 3 = 1 := by kernel_rfl
  have cs1 : Try.prog.cellsOf 9 = 1 := by kernel_rfl
  match cs, hl with
  | [c0, c1, c2, c3, c4, c5, c6, c7], _ =>
    have f0 : DataW.trod enc Try.prog w base spare held n 3 [c0] = xs[0]? := by have := hf 0 _ rfl; simpa [ci, cs1] using this
    have f1 : DataW.trod enc Try.prog w base spare held n 3 [c1] = xs[1]? := by have := hf 1 _ rfl; simpa [ci, cs1] using this
    have f2 : DataW.trod enc Try.prog w base spare held n 3 [c2] = xs[2]? := by have := hf 2 _ rfl; simpa [ci, cs1] using this
    have f3 : DataW.trod enc Try.prog w base spare held n 3 [c3] = xs[3]? := by have := hf 3 _ rfl; simpa [ci, cs1] using this
    have f4 : DataW.trod enc Try.prog w base spare held n 3 [c4] = xs[4]? := by have := hf 4 _ rfl; simpa [ci, cs1] using this
    have f5 : DataW.trod enc Try.prog w base spare held n 3 [c5] = xs[5]? := by have := hf 5 _ rfl; simpa [ci, cs1] using this
    have f6 : DataW.trod enc Try.prog w base spare held n 9 [c6] = xs[6]? := by have := hf 6 _ rfl; simpa [ci, cs1] using this
    have f7 : DataW.trod enc Try.prog w base spare held n 9 [c7] = xs[7]? := by have := hf 7 _ rfl; simpa [ci, cs1] using this
    have hx8 : xs.length = 8 := hx
    rw [List.getElem?_eq_getElem (by omega)] at f0
    rw [List.getElem?_eq_getElem (by omega)] at f1
    rw [List.getElem?_eq_getElem (by omega)] at f2
    rw [List.getElem?_eq_getElem (by omega)] at f3
    rw [List.getElem?_eq_getElem (by omega)] at f4
    rw [List.getElem?_eq_getElem (by omega)] at f5
    rw [List.getElem?_eq_getElem (by omega)] at f6
    rw [List.getElem?_eq_getElem (by omega)] at f7
    obtain ⟨i0, e0, w0⟩ := int_of Try.underlying3 f0
    obtain ⟨i1, e1, w1⟩ := int_of Try.underlying3 f1
    obtain ⟨i2, e2, w2⟩ := int_of Try.underlying3 f2
    obtain ⟨i3, e3, w3⟩ := int_of Try.underlying3 f3
    obtain ⟨i4, e4, w4⟩ := int_of Try.underlying3 f4
    obtain ⟨i5, e5, w5⟩ := int_of Try.underlying3 f5
    obtain ⟨i6, e6, _⟩ := DataW.trod_string Try.underlying9 f6
    obtain ⟨i7, e7, _⟩ := DataW.trod_string Try.underlying9 f7
    simp only [List.cons.injEq, and_true] at e0 e1 e2 e3 e4 e5 e6 e7
    subst e0 e1 e2 e3 e4 e5 e6 e7
    exact ⟨⟨i0, i1, i2, i3, i4, i5, i6, i7⟩, rfl⟩

theorem ops_of {fuel : Nat} {cs : List Value} {x : DataW H × List MemPlace} (h : DataW.trod enc Try.prog w base spare held fuel 22 cs = some x) :
    ∃ p n c l, cs = [.slice p n c] ∧ n ≤ c ∧ c ≤ maxLen ∧ OpsW w p n l := by
  rcases open_slice Try.underlying22 h with ⟨hcs, hx⟩ | ⟨a, len, cap, m, n, D, Pl, hcs, _, hl, hm, hmm, hx, hi⟩
  · exact ⟨none, 0, 0, [], hcs, Nat.le_refl _, Nat.zero_le _, rfl, .inl rfl⟩
  · have hlm : len ≤ m := by rw [hmm]; split <;> omega
    rw [show Try.prog.cellsOf 43 = 8 by kernel_rfl] at hi
    have hall : ∀ i, ∃ d : OpV, i < len → w.cells? base (a.add (i * 8)) 8 = some (opCells d).toList := by
      intro i
      by_cases hil : i < len
      · obtain ⟨cs', hc, ht'⟩ := hi i (by omega)
        obtain ⟨q, he⟩ := op_of ht'
        exact ⟨q, fun _ => he ▸ hc⟩
      · exact ⟨opZero, fun h => absurd h hil⟩
    obtain ⟨E, hE⟩ := Classical.axiomOfChoice hall
    refine ⟨some a, len, cap, (List.range len).map E, hcs, hl, hm, by simp, ?_⟩
    by_cases h0 : len = 0
    · exact .inl h0
    · right
      have h1 := (World.cells?_some (hE 0 (by omega))).2.2 0 (by omega)
      rw [Nat.zero_mul, add_zero, add_zero] at h1
      have hs := cell_spot (h1.trans (show (opCells (E 0)).toList[0]? = some (.int .i64 (E 0).kind) from rfl))
      obtain ⟨b, off, sp⟩ := a
      simp only at hs
      subst hs
      refine ⟨b, off, rfl, fun i hi => ?_⟩
      have hil : i < len := by simpa using hi
      simp only [List.getElem_map, List.getElem_range]
      have h2 := (World.cells?_some (hE i hil)).2.2
      intro j u hu
      have hj : j < 8 := (Array.getElem?_eq_some_iff.1 hu).1
      have := h2 j (by omega)
      rw [add_none, add_none] at this
      rw [this, Array.getElem?_toList]
      exact hu
end
end DS

section
variable {H : Type} {enc : TypeId × Value → H} {w : World}
set_option maxRecDepth 100000 in
/-- An argument that is a slice of operations. -/
theorem ops_of_open {t : TypeId} {v : Value} {d : DataW H} {ps : List MemPlace} (ht : t = 22)
    (hok : Value.okWide Try.prog w .any 0 t v) (h : DataW.Trod enc Try.prog w 0 (fun _ => true) true t v d ps) :
    ∃ p n c l, v = .slice p n c ∧ n ≤ c ∧ c ≤ maxLen ∧ OpsW w p n l := by
  subst ht
  obtain ⟨a0, len, cap, rfl⟩ := okWide_slice Try.underlying22 hok
  obtain ⟨fuel, hf⟩ := h
  obtain ⟨p, n, c, l, hcs, h⟩ := DS.ops_of hf
  simp only [Value.cells, List.cons.injEq, and_true] at hcs
  exact ⟨p, n, c, l, hcs, h⟩
end
end Go.Proofs.Ytcnjklbmlplehaa
