/- Small laws on memory: a store over a store, a store of what is there. No condition. -/
import Derived.WalkKit
import Derived.Lib.Hide
namespace Go.Proofs.Ytdgjjlffdfpkcaa
open Go.RowKit

theorem setCell_setCell (w : World) (a : Addr) (v v' : Value) : (w.setCell a v).setCell a v' = w.setCell a v' := by
  unfold World.setCell
  congr 1
  apply Array.ext_getElem?
  intro i
  simp only [Array.getElem?_modify]
  by_cases h : a.block = i
  · simp only [h, if_true]
    cases hh : w.heap[i]? with
    | none => rfl
    | some x =>
      cases x <;> simp only [Option.map_some]
      by_cases hs : a.spot.isSome
      · simp [hs]
      · simp [hs]
  · simp [h]

theorem setCell_self {w : World} {a : Addr} {v : Value} (h : w.cell? a = some v) : w.setCell a v = w := by
  unfold World.setCell
  have e : (w.heap.modify a.block fun | .cells c elem frozen => .cells (if a.spot.isSome then c else c.setIfInBounds a.off v) elem frozen | o => o) = w.heap := by
    apply Array.ext_getElem?
    intro i
    simp only [Array.getElem?_modify]
    by_cases hi : a.block = i
    · subst hi
      unfold World.cell? at h
      simp only [if_true]
      cases hh : w.heap[a.block]? with
      | none => rfl
      | some x =>
        rw [hh] at h
        cases x <;> simp only [Option.map_some]
        by_cases hs : a.spot.isSome
        · simp [hs]
        · simp [hs] at h ⊢
          apply Array.ext_getElem?
          intro j
          rw [Array.getElem?_setIfInBounds]
          by_cases hj : a.off = j
          · subst hj
            simp only [if_true]
            split
            · exact h.symm
            · rename_i hlt; rw [Array.getElem?_eq_none (by omega)]
          · simp [hj]
    · simp [hi]
  exact congrArg (fun x => { w with heap := x }) e

/-- A cell of the world that holds something lies in it. -/
theorem lt_of_cell {w : World} {a : Addr} {v : Value} (h : w.cell? a = some v) : a.block < w.heap.size := by
  unfold World.cell? at h
  split at h
  · rename_i hb; exact (Array.getElem?_eq_some_iff.1 hb).1
  · cases h

/-- The world has grown at most: what was there lies as it lay. -/
def Ext (w w' : World) : Prop := Below w.heap.size w w'

theorem Ext.refl (w : World) : Ext w w := Below.refl _ _
theorem Ext.trans {a b c : World} (h : Ext a b) (k : Ext b c) : Ext a c := Below.trans h (Below.mono k h.size)
theorem Ext.alloc {a w : World} (h : Ext a w) (o : Obj) : Ext a (w.alloc o) := Below.alloc h h.size o
theorem Ext.drew {a w : World} (h : Ext a w) : Ext a w.drew := Below.drew h
theorem Ext.setCell {a w : World} (h : Ext a w) {p : Addr} (hp : a.heap.size ≤ p.block) (v : Value) : Ext a (w.setCell p v) := Below.setCell h hp v
theorem Ext.size {a w : World} (h : Ext a w) : a.heap.size ≤ w.heap.size := Below.size h
theorem Ext.cell {a w : World} (h : Ext a w) {p : Addr} {v : Value} (hc : a.cell? p = some v) : w.cell? p = some v := (Below.cell h (lt_of_cell hc)).trans hc
theorem Ext.frozen {a w : World} (h : Ext a w) {p : Addr} {v : Value} (hc : a.cell? p = some v) : w.frozen? p = a.frozen? p := Below.frozen h (lt_of_cell hc)
theorem Ext.block {a w : World} (h : Ext a w) {k : Nat} (hk : k < a.heap.size) : w.heap[k]? = a.heap[k]? := Below.block h k hk
theorem Ext.below {a w : World} (h : Ext a w) : Below a.heap.size a w := h
theorem Ext.grown {a w w' : World} {row : Option Nat} (h : Ext a w) (hg : w.grownBy w' row) (hr : ∀ k, row = some k → a.heap.size ≤ k) : Ext a w' := Below.grown h hg h.size hr

end Go.Proofs.Ytdgjjlffdfpkcaa
