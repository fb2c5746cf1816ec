/- Neighbours and edges as the document tells them, plain. -/
import Derived.Test.YtcnjklbmlplehaaLinks
namespace Go.Proofs.Ytcnjklbmlplehaa

namespace GR
def ofN (l : List Nat) : List Int := l.map Int.ofNat
theorem ofN_app (l : List Nat) (x : Nat) : ofN (l ++ [x]) = ofN l ++ [(x : Int)] := by unfold ofN; rw [List.map_append]; rfl
theorem ofN_length (l : List Nat) : (ofN l).length = l.length := List.length_map ..
/-- The document's neighbours, among some first peers. -/
def nearD (l : List Ed) (p : Int) (k : Nat) : List Nat := (List.range k).filter fun q => hasE l p (q : Int)
theorem nearD_next (l : List Ed) (p : Int) (k : Nat) : nearD l p (k + 1) = nearD l p k ++ if hasE l p (k : Int) then [k] else [] := by
  unfold nearD
  rw [List.range_succ, List.filter_append]
  congr 1
  by_cases h : hasE l p (k : Int) = true
  · simp [h]
  · simp [h]
theorem nearD_length (l : List Ed) (p : Int) (k : Nat) : (nearD l p k).length ≤ k := by
  have := List.length_filter_le (fun q : Nat => hasE l p (q : Int)) (List.range k)
  rw [List.length_range] at this
  exact this
theorem hasE_neg {n : Nat} {l : List Ed} (h : OkE n l) {p q : Int} (hp : p < 0) : hasE l p q = false := by
  cases hb : hasE l p q with
  | false => rfl
  | true =>
    unfold hasE at hb
    rw [List.any_eq_true] at hb
    obtain ⟨e, he, h2⟩ := hb
    have := good_ed (h e he)
    simp only [Bool.or_eq_true, Bool.and_eq_true, decide_eq_true_eq] at h2
    omega
theorem nearD_eq {n : Nat} {l : List Ed} (h : OkE n l) (p : Int) : nearD l p n = nearZ n (adjOf l) p := by
  unfold nearZ nearD near
  by_cases hp : 0 ≤ p
  · rw [if_pos hp]
    obtain ⟨u, rfl⟩ := Int.eq_ofNat_of_zero_le hp
    rw [Int.toNat_natCast]
    rfl
  · rw [if_neg hp]
    rw [List.filter_eq_nil_iff]
    intro q _
    rw [hasE_neg h (by omega)]
    exact Bool.false_ne_true

/-- Links as edges; the document's, on the way. -/
def toEd (l : List Lk) : List Ed := l.map fun z => ((z.1 : Int), (z.2 : Int))
theorem toEd_app (l m : List Lk) : toEd (l ++ m) = toEd l ++ toEd m := List.map_append
theorem toEd_length (l : List Lk) : (toEd l).length = l.length := List.length_map ..
def linksTo (adj : Nat → Nat → Bool) (a m : Nat) : List Lk := ((List.range m).filter fun b => decide (a < b) && adj a b).map fun b => (a, b)
theorem linksTo_eq (n : Nat) (adj : Nat → Nat → Bool) (a : Nat) : linksTo adj a n = linksAt n adj a := rfl
theorem linksTo_start (adj : Nat → Nat → Bool) (a : Nat) : linksTo adj a (a + 1) = [] := by
  unfold linksTo
  rw [List.filter_eq_nil_iff.2, List.map_nil]
  intro b hb
  rw [List.mem_range] at hb
  rw [decide_eq_false (by omega)]
  exact Bool.false_ne_true
theorem linksTo_next (adj : Nat → Nat → Bool) {a m : Nat} (h : a < m) : linksTo adj a (m + 1) = linksTo adj a m ++ if adj a m then [(a, m)] else [] := by
  unfold linksTo
  rw [List.range_succ, List.filter_append, List.map_append]
  congr 1
  by_cases hb : adj a m = true
  · rw [if_pos hb, List.filter_cons_of_pos (by rw [decide_eq_true h, hb]; rfl)]; rfl
  · rw [if_neg hb, List.filter_cons_of_neg (by rw [decide_eq_true h]; simpa using hb)]; rfl
def linksOf (n : Nat) (adj : Nat → Nat → Bool) (k : Nat) : List Lk := (List.range k).flatMap (linksAt n adj)
theorem linksOf_next (n : Nat) (adj : Nat → Nat → Bool) (k : Nat) : linksOf n adj (k + 1) = linksOf n adj k ++ linksAt n adj k := by
  unfold linksOf
  rw [List.range_succ, List.flatMap_append]
  simp
theorem linksTo_length (adj : Nat → Nat → Bool) (a m : Nat) : (linksTo adj a m).length ≤ m := by
  unfold linksTo
  rw [List.length_map]
  have := List.length_filter_le (fun b => decide (a < b) && adj a b) (List.range m)
  rw [List.length_range] at this
  exact this
theorem linksOf_length (n : Nat) (adj : Nat → Nat → Bool) (k : Nat) : (linksOf n adj k).length ≤ k * n := by
  induction k with
  | zero => exact Nat.zero_le _
  | succ k ih =>
    rw [linksOf_next, List.length_append, Nat.add_mul, Nat.one_mul, ← linksTo_eq]
    have := linksTo_length adj k n
    omega
end GR
end Go.Proofs.Ytcnjklbmlplehaa
