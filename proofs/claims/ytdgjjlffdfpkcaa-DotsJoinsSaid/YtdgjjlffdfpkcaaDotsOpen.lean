/- An argument that is a list of dots, or a set, opens to its cells. -/
import Derived.Test.YtdgjjlffdfpkcaaVecMade
import Derived.Test.YtdgjjlffdfpkcaaLaw
import Derived.Deep.MidRow
import Derived.Deep.Slices
namespace Go.Proofs.Ytdgjjlffdfpkcaa
open Go.ChangeShapes Go.WideShapes Go.ChangeAt Go.RowKit Go.Deep

/-- Dots behind a slice, of whatever length. -/
def DotsW (w : World) (p : Option Addr) (n : Nat) (l : List Dot) : Prop := l.length = n ∧ (∀ d ∈ l, Fit d) ∧ (n = 0 ∨ ∃ b off, p = some ⟨b, off, none⟩ ∧ DotsAt w b off l)
theorem DotsW.ext {w w' : World} {p : Option Addr} {n : Nat} {l : List Dot} (h : DotsW w p n l) (he : Ext w w') : DotsW w' p n l := ⟨h.1, h.2.1, h.2.2.imp id fun ⟨b, off, hp, hs⟩ => ⟨b, off, hp, hs.ext he⟩⟩
theorem DotsW.v {w : World} {p : Option Addr} {n c : Nat} {l : List Dot} (h : DotsW w p n l) (hc : n ≤ c) (hm : c ≤ maxLen) (hn : n ≤ 70368744177664) : DotsV w (.slice p l.length c) l := by
  obtain ⟨rfl, h2, h3⟩ := h
  exact ⟨p, c, rfl, hc, hm, rfl, hn, h2, h3⟩

namespace DS
theorem cell_spot {w : World} {a : Addr} {v : Value} (h : w.cell? a = some v) : a.spot = none := by
  unfold World.cell? at h
  split at h
  · cases hs : a.spot with
    | none => rfl
    | some x => simp [hs] at h
  · cases h
theorem add_zero (a : Addr) : a.add 0 = a := by simp [Addr.add]
theorem add_none (b off i : Nat) : (⟨b, off, none⟩ : Addr).add i = ⟨b, off + i, none⟩ := by unfold Addr.add; split <;> simp_all

section
variable {H : Type} {enc : TypeId × Value → H} {w : World} {base : Nat} {spare : Nat → Bool} {held : Bool}

theorem int_of {fuel : Nat} {t : TypeId} {k : IntKind} {cs : List Value} {x : DataW H × List MemPlace} (ht : Try.prog.underlying t = some (.int k)) (h : DataW.trod enc Try.prog w base spare held fuel t cs = some x) : ∃ n, cs = [.int k n] ∧ (Lit.int k n).wf = true := by
  obtain ⟨n, h1, _, h2⟩ := DataW.trod_int ht h
  exact ⟨n, h1, h2⟩

theorem wf_i64 {n : Int} (h : (Lit.int .i64 n).wf = true) : -9223372036854775808 ≤ n ∧ n < 9223372036854775808 := by
  simp [Lit.wf, IntKind.min, IntKind.max, IntKind.signed, IntKind.bits] at h
  omega

set_option maxRecDepth 100000 in
theorem dot_of {fuel : Nat} {cs : List Value} {x : DataW H × List MemPlace} (h : DataW.trod enc Try.prog w base spare held fuel 26 cs = some x) :
    ∃ p c, cs = [.int .i64 p, .int .i64 c] ∧ Fit (p, c) := by
  obtain ⟨xs, n, _, _, hl, hx, hf⟩ := DataW.trod_struct Try.underlying26 h
  rw [show Try.prog.cellsOf 26 = 2 by kernel_rfl] at hl
  have ci : Try.prog.cellsOf 3 = 1 := by kernel_rfl
  match cs, hl with
  | [c0, c1], _ =>
    have f0 : DataW.trod enc Try.prog w base spare held n 3 [c0] = xs[0]? := by have := hf 0 _ rfl; simpa [ci] using this
    have f1 : DataW.trod enc Try.prog w base spare held n 3 [c1] = xs[1]? := by have := hf 1 _ rfl; simpa [ci] using this
    have hx2 : xs.length = 2 := hx
    rw [List.getElem?_eq_getElem (by omega)] at f0
    rw [List.getElem?_eq_getElem (by omega)] at f1
    obtain ⟨i0, e0, w0⟩ := int_of Try.underlying3 f0
    obtain ⟨i1, e1, w1⟩ := int_of Try.underlying3 f1
    simp only [List.cons.injEq, and_true] at e0 e1
    subst e0 e1
    exact ⟨i0, i1, rfl, wf_i64 w0, wf_i64 w1⟩

theorem dots_of {fuel : Nat} {cs : List Value} {x : DataW H × List MemPlace} (h : DataW.trod enc Try.prog w base spare held fuel 22 cs = some x) :
    ∃ p n c l, cs = [.slice p n c] ∧ n ≤ c ∧ c ≤ maxLen ∧ DotsW w p n l := by
  rcases open_slice Try.underlying22 h with ⟨hcs, hx⟩ | ⟨a, len, cap, m, n, D, Pl, hcs, _, hl, hm, hmm, hx, hi⟩
  · exact ⟨none, 0, 0, [], hcs, Nat.le_refl _, Nat.zero_le _, rfl, by simp, .inl rfl⟩
  · have hlm : len ≤ m := by rw [hmm]; split <;> omega
    rw [show Try.prog.cellsOf 26 = 2 by kernel_rfl] at hi
    have hall : ∀ i, ∃ d : Dot, i < len → w.cells? base (a.add (i * 2)) 2 = some [.int .i64 d.1, .int .i64 d.2] ∧ Fit d := by
      intro i
      by_cases hil : i < len
      · obtain ⟨cs', hc, ht'⟩ := hi i (by omega)
        obtain ⟨q, c, he, hfit⟩ := dot_of ht'
        exact ⟨(q, c), fun _ => ⟨he ▸ hc, hfit⟩⟩
      · exact ⟨(0, 0), fun h => absurd h hil⟩
    obtain ⟨E, hE⟩ := Classical.axiomOfChoice hall
    refine ⟨some a, len, cap, (List.range len).map E, hcs, hl, hm, by simp, fun e he => ?_, ?_⟩
    · obtain ⟨i, hi1, rfl⟩ := List.mem_map.1 he
      exact (hE i (by simpa using hi1)).2
    · by_cases h0 : len = 0
      · exact .inl h0
      · right
        have h1 := (World.cells?_some (hE 0 (by omega)).1).2.2 0 (by omega)
        rw [Nat.zero_mul, add_zero, add_zero] at h1
        have hs := cell_spot (h1.trans (show [Value.int .i64 (E 0).1, .int .i64 (E 0).2][0]? = some (.int .i64 (E 0).1) from rfl))
        obtain ⟨b, off, sp⟩ := a
        simp only at hs
        subst hs
        refine ⟨b, off, rfl, fun i hi => ?_⟩
        have hil : i < len := by simpa using hi
        simp only [List.getElem_map, List.getElem_range]
        have h2 := (World.cells?_some (hE i hil).1).2.2
        refine ⟨?_, ?_⟩
        · have := h2 0 (by omega)
          rw [add_none, add_none] at this
          exact this
        · have := h2 1 (by omega)
          rw [add_none, add_none] at this
          exact this
end
end DS

section
variable {H : Type} {enc : TypeId × Value → H} {w : World}
set_option maxRecDepth 100000 in
/-- An argument that is a slice of dots. -/
theorem dots_of_open {t : TypeId} {v : Value} {d : DataW H} {ps : List MemPlace} (ht : t = 22)
    (hok : Value.okWide Try.prog w .any 0 t v) (h : DataW.Trod enc Try.prog w 0 (fun _ => true) true t v d ps) :
    ∃ p n c l, v = .slice p n c ∧ n ≤ c ∧ c ≤ maxLen ∧ DotsW w p n l := by
  subst ht
  obtain ⟨a0, len, cap, rfl⟩ := okWide_slice Try.underlying22 hok
  obtain ⟨fuel, hf⟩ := h
  obtain ⟨p, n, c, l, hcs, h⟩ := DS.dots_of hf
  simp only [Value.cells, List.cons.injEq, and_true] at hcs
  exact ⟨p, n, c, l, hcs, h⟩
set_option maxRecDepth 100000 in
/-- An argument that is a dot. -/
theorem dot_of_open {t : TypeId} {v : Value} {d : DataW H} {ps : List MemPlace} (ht : t = 26)
    (hok : Value.okWide Try.prog w .any 0 t v) (h : DataW.Trod enc Try.prog w 0 (fun _ => true) true t v d ps) :
    ∃ d : Dot, v = .agg #[.int .i64 d.1, .int .i64 d.2] ∧ Fit d := by
  subst ht
  obtain ⟨cs, rfl, _⟩ := okWide_struct Try.underlying26 hok
  obtain ⟨fuel, hf⟩ := h
  obtain ⟨q, c, hcs, h⟩ := DS.dot_of hf
  simp only [Value.cells] at hcs
  refine ⟨(q, c), ?_, h⟩
  obtain ⟨l⟩ := cs
  simp only at hcs
  rw [hcs]
set_option maxRecDepth 100000 in
/-- An argument that is a set. -/
theorem set_of_open {t : TypeId} {v : Value} {d : DataW H} {ps : List MemPlace} (ht : t = 24)
    (hok : Value.okWide Try.prog w .any 0 t v) (h : DataW.Trod enc Try.prog w 0 (fun _ => true) true t v d ps) :
    ∃ p1 n1 c1 l1 p2 n2 c2 l2, v = .agg #[.slice p1 n1 c1, .slice p2 n2 c2] ∧ n1 ≤ c1 ∧ c1 ≤ maxLen ∧ DotsW w p1 n1 l1 ∧ n2 ≤ c2 ∧ c2 ≤ maxLen ∧ DotsW w p2 n2 l2 := by
  subst ht
  obtain ⟨cs, rfl, _⟩ := okWide_struct Try.underlying24 hok
  obtain ⟨fuel, hf⟩ := h
  obtain ⟨xs, n, _, _, hl, hx, hf⟩ := DataW.trod_struct Try.underlying24 hf
  rw [show Try.prog.cellsOf 24 = 2 by kernel_rfl] at hl
  have ci : Try.prog.cellsOf 22 = 1 := by kernel_rfl
  obtain ⟨cs⟩ := cs
  simp only [Value.cells] at hl hf
  match cs, hl with
  | [a, b], _ =>
    have f0 : DataW.trod enc Try.prog w 0 (fun _ => true) true n 22 [a] = xs[0]? := by have := hf 0 _ rfl; simpa [ci] using this
    have f1 : DataW.trod enc Try.prog w 0 (fun _ => true) true n 22 [b] = xs[1]? := by have := hf 1 _ rfl; simpa [ci] using this
    have hx2 : xs.length = 2 := hx
    rw [List.getElem?_eq_getElem (by omega)] at f0
    rw [List.getElem?_eq_getElem (by omega)] at f1
    obtain ⟨p1, n1, c1, l1, e1, g1, m1, d1⟩ := DS.dots_of f0
    obtain ⟨p2, n2, c2, l2, e2, g2, m2, d2⟩ := DS.dots_of f1
    simp only [List.cons.injEq, and_true] at e1 e2
    subst e1 e2
    exact ⟨p1, n1, c1, l1, p2, n2, c2, l2, rfl, g1, m1, d1, g2, m2, d2⟩
end
end Go.Proofs.Ytdgjjlffdfpkcaa
