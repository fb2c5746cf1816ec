/- Lists of operations in memory; how many there are of each kind. -/
import Derived.Test.YtcnjklbmlplehaaDrillNums
namespace Go.Proofs.Ytcnjklbmlplehaa
open Go.RowKit

def OpsAt (w : World) (b off : Nat) (l : List OpV) : Prop := ∀ i (h : i < l.length) j u, (opCells l[i])[j]? = some u → w.cell? ⟨b, off + i * 8 + j, none⟩ = some u
theorem OpsAt.ext {w w' : World} {b off : Nat} {l : List OpV} (h : OpsAt w b off l) (he : Ext w w') : OpsAt w' b off l := fun i hi j u hu => he.cell (h i hi j u hu)
/-- A slice that reads as a list of operations. -/
def OpsV (w : World) (v : Value) (l : List OpV) : Prop := ∃ p c, v = .slice p l.length c ∧ (l.length = 0 ∨ ∃ b off, p = some ⟨b, off, none⟩ ∧ OpsAt w b off l)
theorem OpsV.ext {w w' : World} {v : Value} {l : List OpV} (h : OpsV w v l) (he : Ext w w') : OpsV w' v l := by
  obtain ⟨p, c, hv, hs⟩ := h
  exact ⟨p, c, hv, hs.imp id fun ⟨b, off, hp, ha⟩ => ⟨b, off, hp, ha.ext he⟩⟩
theorem OpsAt.cs {W : World} {b off : Nat} {l : List OpV} (h : OpsAt W b off l) {i : Nat} (hi : i < l.length) {k p t n a m : Int} {pa da : ByteArray} (he : l[i] = ⟨k, p, t, n, a, m, pa, da⟩) :
    W.cell? ⟨b, off + i * 8, none⟩ = some (.int .i64 k) ∧ W.cell? ⟨b, off + i * 8 + 1, none⟩ = some (.int .i64 p) ∧ W.cell? ⟨b, off + i * 8 + 2, none⟩ = some (.int .i64 t) ∧ W.cell? ⟨b, off + i * 8 + 3, none⟩ = some (.int .i64 n) ∧ W.cell? ⟨b, off + i * 8 + 4, none⟩ = some (.int .i64 a) ∧ W.cell? ⟨b, off + i * 8 + 5, none⟩ = some (.int .i64 m) ∧ W.cell? ⟨b, off + i * 8 + 6, none⟩ = some (.string pa) ∧ W.cell? ⟨b, off + i * 8 + 7, none⟩ = some (.string da) := by
  have hh := h i hi
  rw [he] at hh
  exact ⟨hh 0 _ rfl, hh 1 _ rfl, hh 2 _ rfl, hh 3 _ rfl, hh 4 _ rfl, hh 5 _ rfl, hh 6 _ rfl, hh 7 _ rfl⟩

namespace DR
/-- How many there are of a kind. -/
def cnt (l : List OpV) (i : Int) : Nat := l.countP fun x => x.kind == i
theorem cnt_app (l : List OpV) (x : OpV) (i : Int) : cnt (l ++ [x]) i = cnt l i + if x.kind == i then 1 else 0 := by
  unfold cnt
  rw [List.countP_append, List.countP_cons, List.countP_nil, Nat.zero_add]
theorem cnt_le (l : List OpV) (i : Int) : cnt l i ≤ l.length := List.countP_le_length
/-- Of each. -/
def counts (l : List OpV) : List Int := (List.range 13).map fun i => (cnt l (i : Nat) : Int)
theorem counts_length (l : List OpV) : (counts l).length = 13 := by unfold counts; simp
theorem counts_get (l : List OpV) (i : Nat) (h : i < 13) : (counts l)[i]? = some (cnt l (i : Nat) : Int) := by
  unfold counts
  rw [List.getElem?_map, List.getElem?_range h]
  rfl
theorem counts_in (l : List OpV) (x : OpV) (k : Nat) (h : x.kind = k) (hk : k < 13) : counts (l ++ [x]) = (counts l).set k ((cnt l (k : Nat) : Int) + 1) := by
  refine List.ext_getElem? fun i => ?_
  by_cases hi : i < 13
  · rw [counts_get _ _ hi, List.getElem?_set, cnt_app, h]
    by_cases he : k = i
    · subst he
      simp [counts_length, hk]
    · rw [if_neg he, counts_get _ _ hi, if_neg (by rw [beq_iff_eq]; omega)]
      simp
  · rw [List.getElem?_eq_none (by rw [counts_length]; omega), List.getElem?_eq_none (by rw [List.length_set, counts_length]; omega)]
theorem counts_out (l : List OpV) (x : OpV) (h : ¬ (0 ≤ x.kind ∧ x.kind < 13)) : counts (l ++ [x]) = counts l := by
  refine List.ext_getElem? fun i => ?_
  by_cases hi : i < 13
  · rw [counts_get _ _ hi, counts_get _ _ hi, cnt_app, if_neg (by rw [beq_iff_eq]; omega)]
    simp
  · rw [List.getElem?_eq_none (by rw [counts_length]; omega), List.getElem?_eq_none (by rw [counts_length]; omega)]
/-- The sum of the first counts. -/
def sumK (l : List OpV) : Nat → Nat
  | 0 => 0
  | m + 1 => sumK l m + cnt l (m : Nat)
theorem countP_split (l : List OpV) (m : Nat) : (l.countP fun x => decide (0 ≤ x.kind ∧ x.kind < ((m + 1 : Nat) : Int))) = (l.countP fun x => decide (0 ≤ x.kind ∧ x.kind < (m : Int))) + l.countP fun x => x.kind == (m : Int) := by
  induction l with
  | nil => rfl
  | cons x l ih =>
    rw [List.countP_cons, List.countP_cons, List.countP_cons, ih]
    have e : (if decide (0 ≤ x.kind ∧ x.kind < ((m + 1 : Nat) : Int)) = true then 1 else 0) = (if decide (0 ≤ x.kind ∧ x.kind < (m : Int)) = true then 1 else 0) + (if (x.kind == (m : Int)) = true then 1 else 0) := by
      simp only [decide_eq_true_eq, beq_iff_eq]
      split <;> split <;> split <;> omega
    omega
theorem sumK_eq (l : List OpV) (m : Nat) : sumK l m = l.countP fun x => decide (0 ≤ x.kind ∧ x.kind < (m : Int)) := by
  induction m with
  | zero =>
    symm
    rw [sumK, List.countP_eq_zero]
    intro x _ h
    rw [decide_eq_true_eq] at h
    omega
  | succ m ih =>
    rw [sumK, ih, countP_split]
    rfl
theorem sumK_all (l : List OpV) (h : ∀ x ∈ l, 0 ≤ x.kind ∧ x.kind < 13) : sumK l 13 = l.length := by
  rw [sumK_eq, List.countP_eq_length]
  intro x hx
  exact decide_eq_true (h x hx)
end DR
end Go.Proofs.Ytcnjklbmlplehaa
