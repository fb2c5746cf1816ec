/- An argument that is a list of edges, or a row of two or three numbers, opens to its cells. -/
import Derived.Test.YtcnjklbmlplehaaEdgesMem
import Derived.Test.YtcnjklbmlplehaaIntsOpen
namespace Go.Proofs.Ytcnjklbmlplehaa
open Go.ChangeShapes Go.WideShapes Go.ChangeAt Go.RowKit Go.Deep

/-- Edges behind a slice, of whatever length. -/
def EdsW (w : World) (p : Option Addr) (n : Nat) (l : List GR.Ed) : Prop := l.length = n ∧ (n = 0 ∨ ∃ b off, p = some ⟨b, off, none⟩ ∧ EdsAt w b off l)
theorem EdsW.v {w : World} {p : Option Addr} {n c : Nat} {l : List GR.Ed} (h : EdsW w p n l) (hn : n ≤ 70368744177664) : EdsV w (.slice p n c) l := by
  obtain ⟨rfl, h3⟩ := h
  exact ⟨p, c, rfl, hn, h3⟩

namespace DS
section
variable {H : Type} {enc : TypeId × Value → H} {w : World} {base : Nat} {spare : Nat → Bool} {held : Bool}
set_option maxRecDepth 100000 in
theorem ed_of {fuel : Nat} {cs : List Value} {x : DataW H × List MemPlace} (h : DataW.trod enc Try.prog w base spare held fuel 68 cs = some x) :
    ∃ p c, cs = [.int .i64 p, .int .i64 c] := by
  obtain ⟨xs, n, _, _, hl, hx, hf⟩ := DataW.trod_struct Try.underlying68 h
  rw [show Try.prog.cellsOf 68 = 2 by kernel_rfl] at hl
  have ci : Try.prog.cellsOf 3 = 1 := by kernel_rfl
  match cs, hl with
  | [c0, c1], _ =>
    have f0 : DataW.trod enc Try.prog w base spare held n 3 [c0] = xs[0]? := by have := hf 0 _ rfl; simpa [ci] using this
    have f1 : DataW.trod enc Try.prog w base spare held n 3 [c1] = xs[1]? := by have := hf 1 _ rfl; simpa [ci] using this
    have hx2 : xs.length = 2 := hx
    rw [List.getElem?_eq_getElem (by omega)] at f0
    rw [List.getElem?_eq_getElem (by omega)] at f1
    obtain ⟨i0, e0, w0⟩ := int_of Try.underlying3 f0
    obtain ⟨i1, e1, w1⟩ := int_of Try.underlying3 f1
    simp only [List.cons.injEq, and_true] at e0 e1
    subst e0 e1
    exact ⟨i0, i1, rfl⟩

theorem eds_of {fuel : Nat} {cs : List Value} {x : DataW H × List MemPlace} (h : DataW.trod enc Try.prog w base spare held fuel 35 cs = some x) :
    ∃ p n c l, cs = [.slice p n c] ∧ n ≤ c ∧ c ≤ maxLen ∧ EdsW w p n l := by
  rcases open_slice Try.underlying35 h with ⟨hcs, hx⟩ | ⟨a, len, cap, m, n, D, Pl, hcs, _, hl, hm, hmm, hx, hi⟩
  · exact ⟨none, 0, 0, [], hcs, Nat.le_refl _, Nat.zero_le _, rfl, .inl rfl⟩
  · have hlm : len ≤ m := by rw [hmm]; split <;> omega
    rw [show Try.prog.cellsOf 68 = 2 by kernel_rfl] at hi
    have hall : ∀ i, ∃ d : GR.Ed, i < len → w.cells? base (a.add (i * 2)) 2 = some [.int .i64 d.1, .int .i64 d.2] := by
      intro i
      by_cases hil : i < len
      · obtain ⟨cs', hc, ht'⟩ := hi i (by omega)
        obtain ⟨q, c, he⟩ := ed_of ht'
        exact ⟨(q, c), fun _ => he ▸ hc⟩
      · exact ⟨(0, 0), fun h => absurd h hil⟩
    obtain ⟨E, hE⟩ := Classical.axiomOfChoice hall
    refine ⟨some a, len, cap, (List.range len).map E, hcs, hl, hm, by simp, ?_⟩
    by_cases h0 : len = 0
    · exact .inl h0
    · right
      have h1 := (World.cells?_some (hE 0 (by omega))).2.2 0 (by omega)
      rw [Nat.zero_mul, add_zero, add_zero] at h1
      have hs := cell_spot (h1.trans (show [Value.int .i64 (E 0).1, .int .i64 (E 0).2][0]? = some (.int .i64 (E 0).1) from rfl))
      obtain ⟨b, off, sp⟩ := a
      simp only at hs
      subst hs
      refine ⟨b, off, rfl, fun i hi => ?_⟩
      have hil : i < len := by simpa using hi
      simp only [List.getElem_map, List.getElem_range]
      have h2 := (World.cells?_some (hE i hil)).2.2
      refine ⟨?_, ?_⟩
      · have := h2 0 (by omega)
        rw [add_none, add_none] at this
        exact this
      · have := h2 1 (by omega)
        rw [add_none, add_none] at this
        exact this
end
end DS

section
variable {H : Type} {enc : TypeId × Value → H} {w : World}
set_option maxRecDepth 100000 in
/-- An argument that is a slice of edges. -/
theorem eds_of_open {t : TypeId} {v : Value} {d : DataW H} {ps : List MemPlace} (ht : t = 35)
    (hok : Value.okWide Try.prog w .any 0 t v) (h : DataW.Trod enc Try.prog w 0 (fun _ => true) true t v d ps) :
    ∃ p n c l, v = .slice p n c ∧ n ≤ c ∧ c ≤ maxLen ∧ EdsW w p n l := by
  subst ht
  obtain ⟨a0, len, cap, rfl⟩ := okWide_slice Try.underlying35 hok
  obtain ⟨fuel, hf⟩ := h
  obtain ⟨p, n, c, l, hcs, h⟩ := DS.eds_of hf
  simp only [Value.cells, List.cons.injEq, and_true] at hcs
  exact ⟨p, n, c, l, hcs, h⟩
end
end Go.Proofs.Ytcnjklbmlplehaa
