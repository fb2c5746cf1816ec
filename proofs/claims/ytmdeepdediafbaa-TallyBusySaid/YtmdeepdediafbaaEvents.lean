/- Lists of events: how they lie in memory, and how an argument opens to them. -/
import Derived.Test.YtmdeepdediafbaaDots
import Derived.Test.YtmdeepdediafbaaStrs
import Derived.Deep.MidRow
import Derived.Deep.Slices
namespace Go.Proofs.Ytmdeepdediafbaa
open Go.ChangeShapes Go.WideShapes Go.ChangeAt Go.RowKit Go.Deep

/-- An event. -/
structure Ev where
  at0 : Int
  kind : Int
  peer : Int
  tow : Int
  num : Int
  at1 : Int
  mask : Int
  path : ByteArray
  data : ByteArray
  err : Int
  dp : Int
  dc : Int

/-- Its cells. -/
def Ev.cells (e : Ev) : List Value :=
  [.int .i64 e.at0, .int .i64 e.kind, .int .i64 e.peer, .int .i64 e.tow, .int .i64 e.num, .int .i64 e.at1, .int .i64 e.mask, .string e.path, .string e.data, .int .i64 e.err, .int .i64 e.dp, .int .i64 e.dc]

def EvsAt (w : World) (b off : Nat) (l : List Ev) : Prop := ∀ i (h : i < l.length), w.rangeAt b (off + i * 12) l[i].cells

theorem EvsAt.ext {w w' : World} {b off : Nat} {l : List Ev} (h : EvsAt w b off l) (he : Ext w w') : EvsAt w' b off l :=
  fun i hi j v hv => he.cell (h i hi j v hv)

/-- An event's numbers are machine integers. -/
def Ev.Fits (e : Ev) : Prop := Fit (e.dp, e.dc) ∧ (-9223372036854775808 ≤ e.kind ∧ e.kind < 9223372036854775808) ∧ (-9223372036854775808 ≤ e.peer ∧ e.peer < 9223372036854775808) ∧ (-9223372036854775808 ≤ e.err ∧ e.err < 9223372036854775808)

/-- A slice value that reads as a list of events. -/
def Events (w : World) (p : Option Addr) (n : Nat) (l : List Ev) : Prop :=
  l.length = n ∧ n ≤ maxLen ∧ (∀ e ∈ l, e.Fits) ∧ (n = 0 ∨ ∃ b off, p = some ⟨b, off, none⟩ ∧ EvsAt w b off l)

theorem Events.ext {w w' : World} {p : Option Addr} {n : Nat} {l : List Ev} (h : Events w p n l) (he : Ext w w') : Events w' p n l := by
  obtain ⟨h1, h2, h3, h4⟩ := h
  exact ⟨h1, h2, h3, h4.imp id fun ⟨b, off, hp, hs⟩ => ⟨b, off, hp, hs.ext he⟩⟩

section
variable {H : Type} {enc : TypeId × Value → H} {w : World} {base : Nat} {spare : Nat → Bool} {held : Bool}

theorem int_of {fuel : Nat} {t : TypeId} {k : IntKind} {cs : List Value} {x : DataW H × List MemPlace} (ht : Try.prog.underlying t = some (.int k)) (h : DataW.trod enc Try.prog w base spare held fuel t cs = some x) : ∃ n, cs = [.int k n] ∧ (Lit.int k n).wf = true := by
  obtain ⟨n, h1, _, h2⟩ := DataW.trod_int ht h
  exact ⟨n, h1, h2⟩

theorem wf_i64 {n : Int} (h : (Lit.int .i64 n).wf = true) : -9223372036854775808 ≤ n ∧ n < 9223372036854775808 := by
  simp [Lit.wf, IntKind.min, IntKind.max, IntKind.signed, IntKind.bits] at h
  omega

theorem op_of {fuel : Nat} {cs : List Value} {x : DataW H × List MemPlace} (h : DataW.trod enc Try.prog w base spare held fuel 44 cs = some x) :
    ∃ k p t n a m s d, cs = [.int .i64 k, .int .i64 p, .int .i64 t, .int .i64 n, .int .i64 a, .int .i64 m, .string s, .string d] ∧ (-9223372036854775808 ≤ k ∧ k < 9223372036854775808) ∧ (-9223372036854775808 ≤ p ∧ p < 9223372036854775808) := by
  obtain ⟨xs, n, _, _, hl, hx, hf⟩ := DataW.trod_struct Try.underlying44 h
  rw [show Try.prog.cellsOf 44 = 8 by kernel_rfl] at hl
  have ci : Try.prog.cellsOf 3 = 1 := by kernel_rfl
  have cs1 : Try.prog.cellsOf 9 = 1 := by kernel_rfl
  match cs, hl with
  | [c0, c1, c2, c3, c4, c5, c6, c7], _ =>
    have f0 : DataW.trod enc Try.prog w base spare held n 3 [c0] = xs[0]? := by have := hf 0 _ rfl; simpa [ci, cs1] using this
    have f1 : DataW.trod enc Try.prog w base spare held n 3 [c1] = xs[1]? := by have := hf 1 _ rfl; simpa [ci, cs1] using this
    have f2 : DataW.trod enc Try.prog w base spare held n 3 [c2] = xs[2]? := by have := hf 2 _ rfl; simpa [ci, cs1] using this
    have f3 : DataW.trod enc Try.prog w base spare held n 3 [c3] = xs[3]? := by have := hf 3 _ rfl; simpa [ci, cs1] using this
    have f4 : DataW.trod enc Try.prog w base spare held n 3 [c4] = xs[4]? := by have := hf 4 _ rfl; simpa [ci, cs1] using this
    have f5 : DataW.trod enc Try.prog w base spare held n 3 [c5] = xs[5]? := by have := hf 5 _ rfl; simpa [ci, cs1] using this
    have f6 : DataW.trod enc Try.prog w base spare held n 9 [c6] = xs[6]? := by have := hf 6 _ rfl; simpa [ci, cs1] using this
    have f7 : DataW.trod enc Try.prog w base spare held n 9 [c7] = xs[7]? := by have := hf 7 _ rfl; simpa [ci, cs1] using this
    have hx8 : xs.length = 8 := hx
    rw [List.getElem?_eq_getElem (by omega)] at f0
    rw [List.getElem?_eq_getElem (by omega)] at f1
    rw [List.getElem?_eq_getElem (by omega)] at f2
    rw [List.getElem?_eq_getElem (by omega)] at f3
    rw [List.getElem?_eq_getElem (by omega)] at f4
    rw [List.getElem?_eq_getElem (by omega)] at f5
    rw [List.getElem?_eq_getElem (by omega)] at f6
    rw [List.getElem?_eq_getElem (by omega)] at f7
    obtain ⟨i0, e0, w0⟩ := int_of Try.underlying3 f0
    obtain ⟨i1, e1, w1⟩ := int_of Try.underlying3 f1
    obtain ⟨i2, e2, w2⟩ := int_of Try.underlying3 f2
    obtain ⟨i3, e3, w3⟩ := int_of Try.underlying3 f3
    obtain ⟨i4, e4, w4⟩ := int_of Try.underlying3 f4
    obtain ⟨i5, e5, w5⟩ := int_of Try.underlying3 f5
    obtain ⟨i6, e6, _⟩ := DataW.trod_string Try.underlying9 f6
    obtain ⟨i7, e7, _⟩ := DataW.trod_string Try.underlying9 f7
    simp only [List.cons.injEq, and_true] at e0 e1 e2 e3 e4 e5 e6 e7
    subst e0 e1 e2 e3 e4 e5 e6 e7
    exact ⟨i0, i1, i2, i3, i4, i5, i6, i7, rfl, wf_i64 w0, wf_i64 w1⟩

theorem dot_of {fuel : Nat} {cs : List Value} {x : DataW H × List MemPlace} (h : DataW.trod enc Try.prog w base spare held fuel 47 cs = some x) :
    ∃ p c, cs = [.int .i64 p, .int .i64 c] ∧ Fit (p, c) := by
  obtain ⟨xs, n, _, _, hl, hx, hf⟩ := DataW.trod_struct Try.underlying47 h
  rw [show Try.prog.cellsOf 47 = 2 by kernel_rfl] at hl
  have ci : Try.prog.cellsOf 3 = 1 := by kernel_rfl
  match cs, hl with
  | [c0, c1], _ =>
    have f0 : DataW.trod enc Try.prog w base spare held n 3 [c0] = xs[0]? := by have := hf 0 _ rfl; simpa [ci] using this
    have f1 : DataW.trod enc Try.prog w base spare held n 3 [c1] = xs[1]? := by have := hf 1 _ rfl; simpa [ci] using this
    have hx2 : xs.length = 2 := hx
    rw [List.getElem?_eq_getElem (by omega)] at f0
    rw [List.getElem?_eq_getElem (by omega)] at f1
    obtain ⟨i0, e0, w0⟩ := int_of Try.underlying3 f0
    obtain ⟨i1, e1, w1⟩ := int_of Try.underlying3 f1
    simp only [List.cons.injEq, and_true] at e0 e1
    subst e0 e1
    exact ⟨i0, i1, rfl, wf_i64 w0, wf_i64 w1⟩

theorem ev_of {fuel : Nat} {cs : List Value} {x : DataW H × List MemPlace} (h : DataW.trod enc Try.prog w base spare held fuel 49 cs = some x) :
    ∃ e : Ev, cs = e.cells ∧ e.Fits := by
  obtain ⟨xs, n, _, _, hl, hx, hf⟩ := DataW.trod_struct Try.underlying49 h
  rw [show Try.prog.cellsOf 49 = 12 by kernel_rfl] at hl
  have ci : Try.prog.cellsOf 3 = 1 := by kernel_rfl
  have co : Try.prog.cellsOf 44 = 8 := by kernel_rfl
  have ce : Try.prog.cellsOf 45 = 1 := by kernel_rfl
  have cd : Try.prog.cellsOf 47 = 2 := by kernel_rfl
  match cs, hl with
  | [c0, c1, c2, c3, c4, c5, c6, c7, c8, c9, c10, c11], _ =>
    have f0 : DataW.trod enc Try.prog w base spare held n 3 [c0] = xs[0]? := by have := hf 0 _ rfl; simpa [ci, co, ce, cd] using this
    have f1 : DataW.trod enc Try.prog w base spare held n 44 [c1, c2, c3, c4, c5, c6, c7, c8] = xs[1]? := by have := hf 1 _ rfl; simpa [ci, co, ce, cd] using this
    have f2 : DataW.trod enc Try.prog w base spare held n 45 [c9] = xs[2]? := by have := hf 2 _ rfl; simpa [ci, co, ce, cd] using this
    have f3 : DataW.trod enc Try.prog w base spare held n 47 [c10, c11] = xs[3]? := by have := hf 3 _ rfl; simpa [ci, co, ce, cd] using this
    have hx4 : xs.length = 4 := hx
    rw [List.getElem?_eq_getElem (by omega)] at f0
    rw [List.getElem?_eq_getElem (by omega)] at f1
    rw [List.getElem?_eq_getElem (by omega)] at f2
    rw [List.getElem?_eq_getElem (by omega)] at f3
    obtain ⟨i0, e0, _⟩ := int_of Try.underlying3 f0
    obtain ⟨k, p, t, m, a, b, s, d, e1, hk, hp⟩ := op_of f1
    obtain ⟨i2, e2, h2⟩ := int_of Try.underlying45 f2
    obtain ⟨dp, dc, e3, h3⟩ := dot_of f3
    simp only [List.cons.injEq, and_true] at e0 e1 e2 e3
    obtain ⟨rfl, rfl, rfl, rfl, rfl, rfl, rfl, rfl⟩ := e1
    obtain ⟨rfl, rfl⟩ := e3
    subst e0 e2
    exact ⟨⟨i0, k, p, t, m, a, b, s, d, i2, dp, dc⟩, rfl, h3, hk, hp, wf_i64 h2⟩

theorem Ev.cells_length (e : Ev) : e.cells.length = 12 := rfl

/-- An argument that is a slice of events opens to its cells. -/
theorem events_of_open {t : TypeId} {v : Value} {d : DataW H} {ps : List MemPlace} (ht : Try.prog.underlying t = some (.slice 49))
    (hok : Value.okWide Try.prog w .any 0 t v) (h : DataW.Trod enc Try.prog w 0 (fun _ => true) true t v d ps) :
    ∃ p n c l, v = .slice p n c ∧ n ≤ c ∧ c ≤ maxLen ∧ Events w p n l := by
  obtain ⟨a0, len, cap, rfl⟩ := okWide_slice ht hok
  obtain ⟨fuel, hf⟩ := h
  rcases open_slice ht hf with ⟨hcs, hx⟩ | ⟨a, len', cap', m, n, D, Pl, hcs, _, hl, hm, hmm, hx, hi⟩
  · simp only [Value.cells] at hcs
    simp at hcs
    obtain ⟨rfl, rfl, rfl⟩ := hcs
    exact ⟨none, 0, 0, [], rfl, Nat.le_refl _, by unfold maxLen; omega, rfl, by unfold maxLen; omega, by simp, .inl rfl⟩
  · simp only [Value.cells] at hcs
    simp at hcs
    obtain ⟨rfl, rfl, rfl⟩ := hcs
    simp only [if_true] at hmm
    rw [show Try.prog.cellsOf 49 = 12 by kernel_rfl, hmm] at hi
    have hall : ∀ i, ∃ e : Ev, i < len → w.cells? 0 (a.add (i * 12)) 12 = some e.cells ∧ e.Fits := by
      intro i
      by_cases hil : i < len
      · obtain ⟨cs', hc, ht'⟩ := hi i (by omega)
        obtain ⟨e, he, hfit⟩ := ev_of ht'
        exact ⟨e, fun _ => ⟨he ▸ hc, hfit⟩⟩
      · exact ⟨⟨0, 0, 0, 0, 0, 0, 0, .empty, .empty, 0, 0, 0⟩, fun h => absurd h hil⟩
    obtain ⟨E, hE⟩ := Classical.axiomOfChoice hall
    refine ⟨some a, len, cap, (List.range len).map E, rfl, hl, hm, by simp, by omega, fun e he => ?_, ?_⟩
    · obtain ⟨i, hi1, rfl⟩ := List.mem_map.1 he
      exact (hE i (by simpa using hi1)).2
    · by_cases h0 : len = 0
      · exact .inl h0
      · right
        have h1 := (World.cells?_some (hE 0 (by omega)).1).2.2 0 (by omega)
        rw [Nat.zero_mul, add_zero, add_zero] at h1
        have hs := cell_spot (h1.trans (show (E 0).cells[0]? = some (.int .i64 (E 0).at0) from rfl))
        obtain ⟨b, off, sp⟩ := a
        simp only at hs
        subst hs
        refine ⟨b, off, rfl, fun i hi j v hv => ?_⟩
        have hil : i < len := by simpa using hi
        simp only [List.getElem_map, List.getElem_range] at hv
        have hj : j < 12 := by have := (List.getElem?_eq_some_iff.1 hv).1; rw [Ev.cells_length] at this; exact this
        have h2 := (World.cells?_some (hE i hil).1).2.2 j hj
        rw [add_none, add_none] at h2
        exact h2.trans hv
end

end Go.Proofs.Ytmdeepdediafbaa
