/- How far all peers are from one: the program's breadth-first walk. -/
import Derived.Test.YtcckdogcjjimoaaGraphRepeat
import Derived.ArgAppend
namespace Go.Proofs.Ytcckdogcjjimoaa
open Go.RowKit

/-- A row of numbers, in a block of its own. -/
def FarAt (W : World) (F : Nat) (far : List Int) : Prop := W.heap[F]? = some (.cells (intCells far).toArray 3 (0, 0))
theorem FarAt.cell {W : World} {F : Nat} {far : List Int} (h : FarAt W F far) (i : Nat) : W.cell? ⟨F, i, none⟩ = (far[i]?).map (Value.int .i64) := by
  rw [(cell_row h).1]
  unfold intCells
  simp
theorem FarAt.frozen {W : World} {F : Nat} {far : List Int} (h : FarAt W F far) (i : Nat) : W.frozen? ⟨F, i, none⟩ = false := (cell_row h (i := i)).2
theorem FarAt.get {W : World} {F : Nat} {far : List Int} (h : FarAt W F far) {i : Nat} (hi : i < far.length) : W.cell? ⟨F, i, none⟩ = some (.int .i64 (GR.at_ far i)) := by
  rw [h.cell, List.getElem?_eq_getElem hi]
  unfold GR.at_
  rw [List.getD_eq_getElem?_getD, List.getElem?_eq_getElem hi]
  rfl
theorem FarAt.block {W W' : World} {F : Nat} {far : List Int} (h : FarAt W F far) (hb : W'.heap[F]? = W.heap[F]?) : FarAt W' F far := hb.trans h
theorem FarAt.lt {W : World} {F : Nat} {far : List Int} (h : FarAt W F far) : F < W.heap.size := (Array.getElem?_eq_some_iff.1 h).1
theorem FarAt.set {W : World} {F : Nat} {far : List Int} (h : FarAt W F far) (q : Nat) (x : Int) : FarAt (W.setCell ⟨F, q, none⟩ (.int .i64 x)) F (far.set q x) := by
  unfold FarAt World.setCell at *
  rw [Array.getElem?_modify, if_pos rfl, h]
  simp only [Option.map_some]
  congr 2
  unfold intCells
  simp
theorem FarAt.ints {W : World} {F n : Nat} {far : List Int} (h : FarAt W F far) (hn : far.length = n) (hm : n ≤ 64) : IntsV W (.slice (some ⟨F, 0, none⟩) n n) far := by
  subst hn
  refine ⟨_, _, rfl, by omega, .inr ⟨F, 0, rfl, fun i hi => ?_⟩⟩
  rw [Nat.zero_add, h.cell, List.getElem?_eq_getElem hi]
  rfl

/-- How many of some first cells hold numbers below nought. -/
def negs (F n : Nat) (W : World) : Nat := (List.range n).countP fun i => match W.cell? ⟨F, i, none⟩ with
  | some (.int _ x) => decide (x < 0)
  | _ => false
theorem countP_range (far : List Int) : (List.range far.length).countP (fun i => decide (GR.at_ far i < 0)) = far.countP (· < 0) := by
  induction far with
  | nil => rfl
  | cons a l ih =>
    rw [List.length_cons, List.range_succ_eq_map, List.countP_cons, List.countP_map, List.countP_cons]
    have e : ((fun i => decide (GR.at_ (a :: l) i < 0)) ∘ Nat.succ) = fun i => decide (GR.at_ l i < 0) := rfl
    rw [e, ih]
    rfl
theorem negs_eq {W : World} {F n : Nat} {far : List Int} (h : FarAt W F far) (hn : far.length = n) : negs F n W = far.countP (· < 0) := by
  subst hn
  rw [← countP_range]
  unfold negs
  refine List.countP_congr fun i hi => ?_
  rw [List.mem_range] at hi
  rw [h.get hi]

/-- Peers who are still to be asked: a slice whose first ones were taken. -/
structure QueueAt (W : World) (base g off cap : Nat) (l : List Nat) : Prop where
  low : base ≤ g
  le : l.length ≤ cap
  max : cap ≤ maxLen
  row : ∃ cur : Array Value, W.heap[g]? = some (.cells cur 3 (0, 0)) ∧ (0 < cap → off + cap ≤ cur.size) ∧ ∀ i (h : i < l.length), cur[off + i]? = some (.int .i64 (l[i] : Nat))
theorem QueueAt.cell {W : World} {base g off cap : Nat} {l : List Nat} (h : QueueAt W base g off cap l) (i : Nat) (hi : i < l.length) : W.cell? ⟨g, off + i, none⟩ = some (.int .i64 (l[i] : Nat)) := by
  obtain ⟨cur, hg, _, hc⟩ := h.row
  rw [(cell_row hg).1]
  exact hc i hi
theorem QueueAt.lt {W : World} {base g off cap : Nat} {l : List Nat} (h : QueueAt W base g off cap l) : g < W.heap.size := by
  obtain ⟨cur, hg, _⟩ := h.row
  exact (Array.getElem?_eq_some_iff.1 hg).1
theorem QueueAt.block {W W' : World} {base g off cap : Nat} {l : List Nat} (h : QueueAt W base g off cap l) (hb : W'.heap[g]? = W.heap[g]?) : QueueAt W' base g off cap l := by
  obtain ⟨cur, hg, hr⟩ := h.row
  exact ⟨h.low, h.le, h.max, cur, hb.trans hg, hr⟩
theorem QueueAt.ext {W W' : World} {base g off cap : Nat} {l : List Nat} (h : QueueAt W base g off cap l) (he : Ext W W') : QueueAt W' base g off cap l := h.block (he.block h.lt)
theorem QueueAt.tail {W : World} {base g off cap : Nat} {h : Nat} {l : List Nat} (k : QueueAt W base g off (cap + 1) (h :: l)) : QueueAt W base g (off + 1) cap l := by
  obtain ⟨cur, hg, hs, hc⟩ := k.row
  have hl := k.le
  rw [List.length_cons] at hl
  refine ⟨k.low, by omega, by have := k.max; omega, cur, hg, fun _ => by have := hs (by omega); omega, fun i hi => ?_⟩
  have := hc (i + 1) (by rw [List.length_cons]; omega)
  rw [show off + 1 + i = off + (i + 1) by omega, this]
  rfl
theorem QueueAt.last {W : World} {base g off : Nat} {h : Nat} {l : List Nat} (k : QueueAt W base g off 1 (h :: l)) : QueueAt W base g off 0 l := by
  have hl := k.le
  rw [List.length_cons] at hl
  have h0 : l = [] := List.length_eq_zero_iff.1 (by omega)
  subst h0
  obtain ⟨cur, hg, hs, hc⟩ := k.row
  exact ⟨k.low, by simp, by unfold maxLen; omega, cur, hg, fun h => by omega, fun i hi => by simp at hi⟩
def natCells (l : List Nat) : List Value := l.map fun x => Value.int .i64 (x : Nat)
theorem QueueAt.olds {W : World} {base g off cap : Nat} {l : List Nat} (h : QueueAt W base g off cap l) : ∀ j u, (natCells l)[j]? = some u → W.cell? ⟨g, off + j, none⟩ = some u := by
  intro j u hj
  unfold natCells at hj
  rw [List.getElem?_map] at hj
  obtain ⟨x, hx, rfl⟩ := Option.map_eq_some_iff.1 hj
  obtain ⟨hlt, rfl⟩ := List.getElem?_eq_some_iff.1 hx
  exact h.cell j hlt
theorem QueueAt.spare {W : World} {base g off cap : Nat} {l : List Nat} (h : QueueAt W base g off cap l) (hr : l.length + 1 ≤ cap) : (W.cell? ⟨g, off + l.length, none⟩).isSome = true ∧ W.frozen? ⟨g, off + l.length, none⟩ = false := by
  obtain ⟨cur, hg, hs, _⟩ := h.row
  refine ⟨?_, (cell_row hg).2⟩
  rw [(cell_row hg).1, Array.getElem?_eq_getElem (by have := hs (by omega); omega)]
  rfl
theorem setCells_one (w : World) (g o : Nat) (v : Value) : w.setCells g o [v] = w.setCell ⟨g, o, none⟩ v := rfl
theorem QueueAt.push {W : World} {base g off cap : Nat} {l : List Nat} (h : QueueAt W base g off cap l) (hr : l.length + 1 ≤ cap) (x : Nat) : QueueAt (W.setCell ⟨g, off + l.length, none⟩ (.int .i64 (x : Nat))) base g off cap (l ++ [x]) := by
  obtain ⟨cur, hg, hs, hc⟩ := h.row
  have hsz := hs (by omega)
  refine ⟨h.low, by rw [List.length_append]; exact hr, h.max, cur.setIfInBounds (off + l.length) (.int .i64 (x : Nat)), ?_, fun _ => by rw [Array.size_setIfInBounds]; exact hsz, fun i hi => ?_⟩
  · unfold World.setCell
    rw [Array.getElem?_modify, if_pos rfl, hg]
    rfl
  · rw [Array.getElem?_setIfInBounds]
    by_cases hil : i < l.length
    · rw [if_neg (by omega), hc i hil, List.getElem_append_left hil]
    · have hie : i = l.length := by rw [List.length_append] at hi; simp at hi; omega
      subst hie
      rw [if_pos rfl, if_pos (by omega)]
      simp
theorem QueueAt.fresh {W : World} {base b2 : Nat} {v : Value} {l : List Nat} {x : Nat} (h : W.ownsRow b2 3 1 v (l.length + 1) (natCells l ++ [.int .i64 (x : Nat)])) (hb : base ≤ b2) : ∃ g cap, v = .slice (some ⟨g, 0, none⟩) (l.length + 1) cap ∧ QueueAt W base g 0 cap (l ++ [x]) ∧ b2 ≤ g := by
  rcases h.2 with ⟨rfl, h0⟩ | ⟨g, cap, cur, rfl, hb2, hg, hn, hc, hs, hx⟩
  · omega
  · refine ⟨g, cap, rfl, ⟨by omega, by rw [List.length_append]; exact hn, hc, cur, hg, fun _ => by rw [hs]; omega, fun i hi => ?_⟩, hb2⟩
    rw [Nat.zero_add, ← Array.getElem?_toList]
    have hi' : i < l.length + 1 := by simpa using hi
    have h6 := congrArg (fun l : List Value => l[i]?) hx
    simp only [List.getElem?_take] at h6
    rw [if_pos (by omega)] at h6
    rw [h6]
    have e : natCells l ++ [.int .i64 (x : Nat)] = natCells (l ++ [x]) := by unfold natCells; rw [List.map_append]; rfl
    rw [e]
    unfold natCells
    rw [List.getElem?_map, List.getElem?_eq_getElem hi]
    rfl
end Go.Proofs.Ytcckdogcjjimoaa
