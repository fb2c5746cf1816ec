/- The document's steps in memory; values that lie outside the disk's blocks. -/
import Derived.Test.YtfegfbhchdfibaaDocPlain
import Derived.Test.YtfegfbhchdfibaaDocName
import Derived.Test.YtfegfbhchdfibaaDocBlocks
import Derived.Test.YtfegfbhchdfibaaDocBurn
namespace Go.Proofs.Ytfegfbhchdfibaa
open Go.RowKit

theorem two_alloc (w : World) (cs1 cs2 : Array Value) (t1 t2 : TypeId) :
    (∀ i, i < cs1.size → ((w.alloc (.cells cs1 t1)).alloc (.cells cs2 t2)).cell? ⟨w.heap.size, i, none⟩ = cs1[i]?) ∧
    (∀ i, ((w.alloc (.cells cs1 t1)).alloc (.cells cs2 t2)).cell? ⟨w.heap.size + 1, i, none⟩ = cs2[i]?) ∧
    Ext w ((w.alloc (.cells cs1 t1)).alloc (.cells cs2 t2)) := by
  have x1 := (Ext.refl w).alloc (.cells cs1 t1)
  have x2 := (Ext.refl (w.alloc (.cells cs1 t1))).alloc (.cells cs2 t2)
  refine ⟨fun i h => ?_, fun i => ?_, x1.trans x2⟩
  · have e : cs1[i]? = some cs1[i] := Array.getElem?_eq_getElem h
    rw [e]
    exact x2.cell ((alloc_cell w cs1 t1 i).trans e)
  · have := alloc_cell (w.alloc (.cells cs1 t1)) cs2 t2 i
    rw [World.size_alloc] at this
    exact this

/-- Cells of a list of steps. -/
def sCells (l : List RStep) : List Value := l.flatMap fun y => (rsCells y).toList
theorem rsCells_length (y : RStep) : (rsCells y).toList.length = 5 := rfl
theorem sCells_length (l : List RStep) : (sCells l).length = l.length * 5 := by
  induction l with
  | nil => rfl
  | cons e l ih => unfold sCells at *; rw [List.flatMap_cons, List.length_append, ih, rsCells_length, List.length_cons]; omega
theorem sCells_app (l m : List RStep) : sCells (l ++ m) = sCells l ++ sCells m := by unfold sCells; rw [List.flatMap_append]
theorem sCells_at (l : List RStep) (i r : Nat) (hi : i < l.length) (hr : r < 5) : (sCells l)[i * 5 + r]? = (rsCells l[i])[r]? := by
  induction l generalizing i with
  | nil => simp at hi
  | cons e l ih =>
    have e1 : sCells (e :: l) = (rsCells e).toList ++ sCells l := by unfold sCells; rw [List.flatMap_cons]
    cases i with
    | zero =>
      rw [e1, Nat.zero_mul, Nat.zero_add, List.getElem?_append_left (by rw [rsCells_length]; exact hr), Array.getElem?_toList]
      rfl
    | succ i =>
      rw [e1, List.getElem?_append_right (by rw [rsCells_length]; omega), rsCells_length, show (i + 1) * 5 + r - 5 = i * 5 + r from by omega, ih i (by simpa using hi)]
      rfl
theorem sCells_one (l : List RStep) : ∀ u ∈ sCells l, u.oneCell' = true := by
  intro u hu
  obtain ⟨e, _, hu⟩ := List.mem_flatMap.1 hu
  simp [rsCells] at hu
  rcases hu with rfl | rfl | rfl | rfl | rfl <;> rfl
def StsAt (w : World) (b o : Nat) (l : List RStep) : Prop := ∀ i (h : i < l.length) j u, (rsCells l[i])[j]? = some u → w.cell? ⟨b, o + i * 5 + j, none⟩ = some u
theorem StsAt.ext {w w' : World} {b o : Nat} {l : List RStep} (h : StsAt w b o l) (he : Ext w w') : StsAt w' b o l := fun i hi j u hu => he.cell (h i hi j u hu)
theorem StsAt.cs {w : World} {b o : Nat} {l : List RStep} (h : StsAt w b o l) {i : Nat} (hi : i < l.length) :
    w.cell? ⟨b, o + i * 5, none⟩ = some (.int .i64 l[i].kind) ∧ w.cell? ⟨b, o + i * 5 + 1, none⟩ = some (.string l[i].name) ∧ w.cell? ⟨b, o + i * 5 + 2, none⟩ = some (.string l[i].to_) ∧
      w.cell? ⟨b, o + i * 5 + 3, none⟩ = some (.int .i64 l[i].at_) ∧ w.cell? ⟨b, o + i * 5 + 4, none⟩ = some (.string l[i].s) :=
  ⟨h i hi 0 _ rfl, h i hi 1 _ rfl, h i hi 2 _ rfl, h i hi 3 _ rfl, h i hi 4 _ rfl⟩
theorem sts_news {w : World} {b off : Nat} {l : List RStep} (h : StsAt w b off l) : ∀ j u, (sCells l)[j]? = some u → w.cell? ((⟨b, off, none⟩ : Addr).add j) = some u := by
  intro j u hu
  have hj : j < l.length * 5 := by have := (List.getElem?_eq_some_iff.1 hu).1; rw [sCells_length] at this; exact this
  have hi : j / 5 < l.length := by omega
  have := sCells_at l (j / 5) (j % 5) hi (Nat.mod_lt _ (by omega))
  rw [show j / 5 * 5 + j % 5 = j by omega] at this
  rw [this] at hu
  have := h (j / 5) hi (j % 5) u hu
  rw [add_none]
  rw [show off + j = off + j / 5 * 5 + j % 5 by omega]
  exact this
/-- A value that is a slice of steps. -/
def StsV (w : World) (v : Value) (l : List RStep) : Prop := ∃ p c, v = .slice p l.length c ∧ l.length ≤ 1000000 ∧ (l.length = 0 ∨ ∃ b o, p = some ⟨b, o, none⟩ ∧ StsAt w b o l)
theorem StsV.ext {w w' : World} {v : Value} {l : List RStep} (h : StsV w v l) (he : Ext w w') : StsV w' v l := by
  obtain ⟨p, c, h1, h2, h3⟩ := h
  exact ⟨p, c, h1, h2, h3.imp id fun ⟨b, o, hp, hs⟩ => ⟨b, o, hp, hs.ext he⟩⟩
theorem StsV.nil (w : World) : StsV w (.slice none 0 0) [] := ⟨none, 0, rfl, by simp, .inl rfl⟩
theorem row_steps {W : World} {base : Nat} {e : TypeId} {v : Value} {n : Nat} {l : List RStep} (h : W.ownsRow base e 5 v n (sCells l)) (hn : l.length = n) (hl : n ≤ 1000000) : StsV W v l := by
  subst hn
  rcases h.2 with ⟨rfl, h0⟩ | ⟨g, cap, cur, rfl, hb, hg, hn, hc, hs, hx⟩
  · have : l = [] := List.length_eq_zero_iff.1 h0
    subst this
    exact StsV.nil W
  · refine ⟨_, cap, rfl, hl, .inr ⟨g, 0, rfl, fun i hi j u hu => ?_⟩⟩
    have hj : j < 5 := (Array.getElem?_eq_some_iff.1 hu).1
    have h1 := sCells_at l i j hi hj
    rw [Nat.zero_add, h.cellAt (i * 5 + j) (by omega), h1]
    exact hu
theorem info_rstep : (Try.prog.info? 75).map (fun i => (i.zero, i.size, i.bytes)) = some (some (.agg #[.int .i64 0, .string ByteArray.empty, .string ByteArray.empty, .int .i64 0, .string ByteArray.empty]), 5, 64) := by kernel_rfl

/-- A slice's value lies outside some blocks. -/
def Off (S : Nat → Prop) (v : Value) (n : Nat) : Prop := n = 0 ∨ ∀ b, v.ownBlock = some b → ¬ S b
theorem Off.new {S : Nat → Prop} {w : World} {v : Value} {n : Nat} (h : New w v) (hS : ∀ k, S k → k < w.heap.size) : Off S v n := .inr fun b hb hs => by have := h b hb; have := hS b hs; omega
theorem FsV.turn {S : Nat → Prop} {w w' : World} {v : Value} {l : DK.Files} (h : FsV w v l) (ht : Turn S w w') (ho : Off S v l.length) : FsV w' v l := by
  obtain ⟨p, c, h1, h2, h3⟩ := h
  refine ⟨p, c, h1, h2, h3.imp id fun ⟨b, o, hp, hs⟩ => ⟨b, o, hp, fun i hi => ?_⟩⟩
  have hn : ¬ S b := by
    rcases ho with h | h
    · omega
    · exact h b (by rw [h1, hp]; rfl)
  exact ⟨ht.cell (a := ⟨b, o + i * 2, none⟩) hn (hs i hi).1, ht.cell (a := ⟨b, o + i * 2 + 1, none⟩) hn (hs i hi).2⟩
theorem StsV.turn {S : Nat → Prop} {w w' : World} {v : Value} {l : List RStep} (h : StsV w v l) (ht : Turn S w w') (ho : Off S v l.length) : StsV w' v l := by
  obtain ⟨p, c, h1, h2, h3⟩ := h
  refine ⟨p, c, h1, h2, h3.imp id fun ⟨b, o, hp, hs⟩ => ⟨b, o, hp, fun i hi j u hu => ?_⟩⟩
  have hn : ¬ S b := by
    rcases ho with h | h
    · omega
    · exact h b (by rw [h1, hp]; rfl)
  exact ht.cell (a := ⟨b, o + i * 5 + j, none⟩) hn (hs i hi j u hu)
theorem FsV.off {S S' : Nat → Prop} {w : World} {v : Value} {l : DK.Files} (h : FsV w v l) (hg : Grew w S S') (ho : Off S v l.length) : Off S' v l.length := by
  obtain ⟨p, c, h1, h2, h3⟩ := h
  rcases h3 with h3 | ⟨b, o, hp, hs⟩
  · exact .inl h3
  · by_cases h0 : l.length = 0
    · exact .inl h0
    · refine .inr fun b' hb' hs' => ?_
      obtain rfl : b = b' := by rw [h1, hp] at hb'; simpa [Value.ownBlock] using hb'
      have hlt := lt_of_cell (hs 0 (by omega)).1
      rcases hg b hs' with h | h
      · rcases ho with h4 | h4
        · exact h0 h4
        · exact h4 b (by rw [h1, hp]; rfl) h
      · simp only at hlt; omega
theorem StsV.off {S S' : Nat → Prop} {w : World} {v : Value} {l : List RStep} (h : StsV w v l) (hg : Grew w S S') (ho : Off S v l.length) : Off S' v l.length := by
  obtain ⟨p, c, h1, h2, h3⟩ := h
  rcases h3 with h3 | ⟨b, o, hp, hs⟩
  · exact .inl h3
  · by_cases h0 : l.length = 0
    · exact .inl h0
    · refine .inr fun b' hb' hs' => ?_
      obtain rfl : b = b' := by rw [h1, hp] at hb'; simpa [Value.ownBlock] using hb'
      have hlt := lt_of_cell (hs 0 (by omega) 0 _ rfl)
      rcases hg b hs' with h | h
      · rcases ho with h4 | h4
        · exact h0 h4
        · exact h4 b (by rw [h1, hp]; rfl) h
      · simp only at hlt; omega
theorem FsV.slice {w : World} {v : Value} {l : DK.Files} (h : FsV w v l) : ∃ p c, v = .slice p l.length c := by obtain ⟨p, c, h, _⟩ := h; exact ⟨p, c, h⟩
theorem StsV.slice {w : World} {v : Value} {l : List RStep} (h : StsV w v l) : ∃ p c, v = .slice p l.length c := by obtain ⟨p, c, h, _⟩ := h; exact ⟨p, c, h⟩
theorem rs_ok {l : DK.Files} {y : RStep} (h1 : y.kind < 2 → 0 ≤ y.at_ ∧ y.at_ ≤ (DK.get l y.name).size) (h2 : 0 ≤ y.kind ∧ y.kind ≤ 3) (h3 : y.s.size ≤ 100000) (h4 : DK.Small 100000 l) : y.ok l :=
  ⟨h1, h2.1, h2.2, by omega, by have := h4.get y.name; omega, h4.1⟩
end Go.Proofs.Ytfegfbhchdfibaa
