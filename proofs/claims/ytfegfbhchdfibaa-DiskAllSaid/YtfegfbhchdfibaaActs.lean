/- An argument that is an act, or a list of acts, opens to its cells. -/
import Derived.Test.YtfegfbhchdfibaaOwnRows
import Derived.Test.YtfegfbhchdfibaaIntsOpen
import Derived.SizedLaws
namespace Go.Proofs.Ytfegfbhchdfibaa
open Go.ChangeShapes Go.WideShapes Go.ChangeAt Go.RowKit Go.Deep

structure ActV where
  kind : Int
  name : ByteArray
  to_ : ByteArray
  at_ : Int
  n : Int
  s : ByteArray
def actCells (y : ActV) : Array Value := #[.int .i64 y.kind, .string y.name, .string y.to_, .int .i64 y.at_, .int .i64 y.n, .string y.s]
def actZero : ActV := ⟨0, ByteArray.empty, ByteArray.empty, 0, 0, ByteArray.empty⟩
/-- The numbers of an act are numbers of 64 bits. -/
def ActV.Wf (y : ActV) : Prop := (-9223372036854775808 ≤ y.at_ ∧ y.at_ < 9223372036854775808) ∧ (-9223372036854775808 ≤ y.n ∧ y.n < 9223372036854775808)
/-- Its texts are no longer than memory reaches. -/
def ActV.Sized (y : ActV) : Prop := y.name.size ≤ 140737488351232 ∧ y.to_.size ≤ 140737488351232 ∧ y.s.size ≤ 140737488351232
def ActsAt (w : World) (b off : Nat) (l : List ActV) : Prop := ∀ i (h : i < l.length) j u, (actCells l[i])[j]? = some u → w.cell? ⟨b, off + i * 6 + j, none⟩ = some u
theorem ActsAt.ext {w w' : World} {b off : Nat} {l : List ActV} (h : ActsAt w b off l) (he : Ext w w') : ActsAt w' b off l := fun i hi j u hu => he.cell (h i hi j u hu)
theorem ActsAt.cs {w : World} {b off : Nat} {l : List ActV} (h : ActsAt w b off l) {i : Nat} (hi : i < l.length) :
    w.cell? ⟨b, off + i * 6, none⟩ = some (.int .i64 l[i].kind) ∧ w.cell? ⟨b, off + i * 6 + 1, none⟩ = some (.string l[i].name) ∧ w.cell? ⟨b, off + i * 6 + 2, none⟩ = some (.string l[i].to_) ∧
      w.cell? ⟨b, off + i * 6 + 3, none⟩ = some (.int .i64 l[i].at_) ∧ w.cell? ⟨b, off + i * 6 + 4, none⟩ = some (.int .i64 l[i].n) ∧ w.cell? ⟨b, off + i * 6 + 5, none⟩ = some (.string l[i].s) :=
  ⟨h i hi 0 _ rfl, h i hi 1 _ rfl, h i hi 2 _ rfl, h i hi 3 _ rfl, h i hi 4 _ rfl, h i hi 5 _ rfl⟩
/-- Acts behind a slice, of whatever length. -/
def ActsW (w : World) (p : Option Addr) (n : Nat) (l : List ActV) : Prop := l.length = n ∧ (n = 0 ∨ ∃ b off, p = some ⟨b, off, none⟩ ∧ ActsAt w b off l)

namespace DS
section
variable {H : Type} {enc : TypeId × Value → H} {w : World} {base : Nat} {spare : Nat → Bool} {held : Bool}
set_option maxRecDepth 100000 in
theorem act_of {fuel : Nat} {cs : List Value} {x : DataW H × List MemPlace} (h : DataW.trod enc Try.prog w base spare held fuel 29 cs = some x) :
    ∃ y : ActV, cs = (actCells y).toList ∧ y.Wf ∧ ∀ k, k = y.name.size ∨ k = y.to_.size ∨ k = y.s.size → k ∈ x.1.weights Try.prog 29 := by
  obtain ⟨xs, n, _, hxx, hl, hx, hf⟩ := DataW.trod_struct Try.underlying29 h
  rw [show Try.prog.cellsOf 29 = 6 by kernel_rfl] at hl
  have ci : Try.prog.cellsOf 3 = 1 := by kernel_rfl
  have cs1 : Try.prog.cellsOf 9 = 1 := by kernel_rfl
  match cs, hl with
  | [c0, c1, c2, c3, c4, c5], _ =>
    have f0 : DataW.trod enc Try.prog w base spare held n 3 [c0] = xs[0]? := by have := hf 0 _ rfl; simpa [ci, cs1] using this
    have f1 : DataW.trod enc Try.prog w base spare held n 9 [c1] = xs[1]? := by have := hf 1 _ rfl; simpa [ci, cs1] using this
    have f2 : DataW.trod enc Try.prog w base spare held n 9 [c2] = xs[2]? := by have := hf 2 _ rfl; simpa [ci, cs1] using this
    have f3 : DataW.trod enc Try.prog w base spare held n 3 [c3] = xs[3]? := by have := hf 3 _ rfl; simpa [ci, cs1] using this
    have f4 : DataW.trod enc Try.prog w base spare held n 3 [c4] = xs[4]? := by have := hf 4 _ rfl; simpa [ci, cs1] using this
    have f5 : DataW.trod enc Try.prog w base spare held n 9 [c5] = xs[5]? := by have := hf 5 _ rfl; simpa [ci, cs1] using this
    have hx6 : xs.length = 6 := hx
    match xs, hx6 with
    | [y0, y1, y2, y3, y4, y5], _ =>
      simp only [List.getElem?_cons_zero, List.getElem?_cons_succ] at f0 f1 f2 f3 f4 f5
      obtain ⟨i0, e0, w0⟩ := int_of Try.underlying3 f0
      obtain ⟨i1, e1, z1, _⟩ := DataW.trod_string Try.underlying9 f1
      obtain ⟨i2, e2, z2, _⟩ := DataW.trod_string Try.underlying9 f2
      obtain ⟨i3, e3, w3⟩ := int_of Try.underlying3 f3
      obtain ⟨i4, e4, w4⟩ := int_of Try.underlying3 f4
      obtain ⟨i5, e5, z5, _⟩ := DataW.trod_string Try.underlying9 f5
      simp only [List.cons.injEq, and_true] at e0 e1 e2 e3 e4 e5
      subst e0 e1 e2 e3 e4 e5
      refine ⟨⟨i0, i1, i2, i3, i4, i5⟩, rfl, ⟨wf_i64 w3, wf_i64 w4⟩, fun k hk => ?_⟩
      rw [hxx]
      subst z1 z2 z5
      simp only [DataW.weights, Try.underlying29, List.map_cons, List.map_nil, DataW.weightsEach, List.mem_append, List.mem_cons, List.not_mem_nil, or_false, Array.length_toList]
      simp only [ByteArray.size] at hk
      rcases hk with h | h | h <;> simp [h]
theorem weightsAll_mem {P : Program} {e : TypeId} : ∀ (l : List (DataW H)) (d : DataW H), d ∈ l → ∀ k ∈ d.weights P e, k ∈ DataW.weightsAll P e l
  | [], d, h => by cases h
  | a :: l, d, h => fun k hk => by
    simp only [DataW.weightsAll, List.mem_append]
    rcases List.mem_cons.1 h with rfl | h
    · exact .inl hk
    · exact .inr (weightsAll_mem l d h k hk)
set_option maxRecDepth 100000 in
theorem acts_of {fuel : Nat} {cs : List Value} {x : DataW H × List MemPlace} (h : DataW.trod enc Try.prog w base spare held fuel 22 cs = some x) :
    ∃ p n c l, cs = [.slice p n c] ∧ n ≤ c ∧ c ≤ maxLen ∧ ActsW w p n l ∧ ∀ y ∈ l, y.Wf ∧ ∀ k, k = y.name.size ∨ k = y.to_.size ∨ k = y.s.size → k ∈ x.1.weights Try.prog 22 := by
  rcases open_slice Try.underlying22 h with ⟨hcs, hx⟩ | ⟨a, len, cap, m, n, D, Pl, hcs, _, hl, hm, hmm, hx, hi⟩
  · exact ⟨none, 0, 0, [], hcs, Nat.le_refl _, Nat.zero_le _, ⟨rfl, .inl rfl⟩, fun y hy => by cases hy⟩
  · have hlm : len ≤ m := by rw [hmm]; split <;> omega
    rw [show Try.prog.cellsOf 29 = 6 by kernel_rfl] at hi
    have hall : ∀ i, ∃ d : ActV, i < len → (w.cells? base (a.add (i * 6)) 6 = some (actCells d).toList ∧ d.Wf ∧ ∀ k, k = d.name.size ∨ k = d.to_.size ∨ k = d.s.size → k ∈ (D i).weights Try.prog 29) := by
      intro i
      by_cases hil : i < len
      · obtain ⟨cs', hc, ht'⟩ := hi i (by omega)
        obtain ⟨q, he, hw, hz⟩ := act_of ht'
        exact ⟨q, fun _ => ⟨he ▸ hc, hw, hz⟩⟩
      · exact ⟨actZero, fun h => absurd h hil⟩
    obtain ⟨E, hE⟩ := Classical.axiomOfChoice hall
    refine ⟨some a, len, cap, (List.range len).map E, hcs, hl, hm, ⟨by simp, ?_⟩, ?_⟩
    · by_cases h0 : len = 0
      · exact .inl h0
      · right
        have h1 := (World.cells?_some (hE 0 (by omega)).1).2.2 0 (by omega)
        rw [Nat.zero_mul, add_zero, add_zero] at h1
        have hs := cell_spot (h1.trans (show (actCells (E 0)).toList[0]? = some (.int .i64 (E 0).kind) from rfl))
        obtain ⟨b, off, sp⟩ := a
        simp only at hs
        subst hs
        refine ⟨b, off, rfl, fun i hi => ?_⟩
        have hil : i < len := by simpa using hi
        simp only [List.getElem_map, List.getElem_range]
        have h2 := (World.cells?_some (hE i hil).1).2.2
        intro j u hu
        have hj : j < 6 := (Array.getElem?_eq_some_iff.1 hu).1
        have := h2 j (by omega)
        rw [add_none, add_none] at this
        rw [this, Array.getElem?_toList]
        exact hu
    · intro y hy
      obtain ⟨i, hi', rfl⟩ := List.mem_map.1 hy
      have hil := List.mem_range.1 hi'
      refine ⟨(hE i hil).2.1, fun k hk => ?_⟩
      rw [hx]
      simp only [DataW.weights, Try.underlying22, List.mem_cons, List.mem_append]
      exact .inr (.inl (weightsAll_mem _ (D i) (List.mem_map.2 ⟨i, hi', rfl⟩) k ((hE i hil).2.2 k hk)))
end
end DS

section
variable {H : Type} {enc : TypeId × Value → H} {w : World}
theorem okWide_struct {P : Program} {w : World} {r : Reach} {base : Nat} {t : TypeId} {v : Value} {fs : Array Field} (ht : P.underlying t = some (.struct fs)) (h : Value.okWide P w r base t v) : ∃ cs, v = .agg cs := by
  simp only [Value.okWide, ht] at h
  obtain ⟨cs, h1, _⟩ := h
  exact ⟨cs, h1⟩
set_option maxRecDepth 100000 in
/-- An argument that is an act. -/
theorem act_of_open {t : TypeId} {v : Value} {d : DataW H} {ps : List MemPlace} (ht : t = 29)
    (hok : Value.okWide Try.prog w .any 0 t v) (h : DataW.Trod enc Try.prog w 0 (fun _ => true) true t v d ps) :
    ∃ y : ActV, v = .agg (actCells y) ∧ y.Wf := by
  subst ht
  obtain ⟨cs, rfl⟩ := okWide_struct Try.underlying29 hok
  obtain ⟨fuel, hf⟩ := h
  obtain ⟨y, hcs, hw, _⟩ := DS.act_of hf
  exact ⟨y, by
    congr 1
    exact Array.toList_inj.1 hcs, hw⟩
set_option maxRecDepth 100000 in
/-- An argument that is a list of acts. -/
theorem acts_of_open {t : TypeId} {v : Value} {d : DataW H} {ps : List MemPlace} {ts : List TypeId} {ds : List (DataW H)} {j : Nat} (ht : t = 22)
    (hok : Value.okWide Try.prog w .any 0 t v) (h : DataW.Trod enc Try.prog w 0 (fun _ => true) true t v d ps)
    (hsz : (DataW.weightsEach Try.prog ts ds).all (· ≤ reachBytes) = true) (hj : ts[j]? = some t) (hd : ds[j]? = some d) :
    ∃ p n c l, v = .slice p n c ∧ n ≤ c ∧ c ≤ maxLen ∧ ActsW w p n l ∧ ∀ y ∈ l, y.Wf ∧ y.Sized := by
  subst ht
  obtain ⟨a0, len, cap, rfl⟩ := okWide_slice Try.underlying22 hok
  obtain ⟨fuel, hf⟩ := h
  obtain ⟨p, n, c, l, hcs, h1, h2, h3, h4⟩ := DS.acts_of hf
  simp only [Value.cells, List.cons.injEq, and_true] at hcs
  refine ⟨p, n, c, l, hcs, h1, h2, h3, fun y hy => ⟨(h4 y hy).1, ?_⟩⟩
  have hb : ∀ k, k = y.name.size ∨ k = y.to_.size ∨ k = y.s.size → k ≤ 140737488351232 := fun k hk => by
    have hm2 := DataW.weights_mem_each (P := Try.prog) hj hd k ((h4 y hy).2 k hk)
    have := List.all_eq_true.1 hsz _ hm2
    exact of_decide_eq_true this
  exact ⟨hb _ (.inl rfl), hb _ (.inr (.inl rfl)), hb _ (.inr (.inr rfl))⟩
end
end Go.Proofs.Ytfegfbhchdfibaa
