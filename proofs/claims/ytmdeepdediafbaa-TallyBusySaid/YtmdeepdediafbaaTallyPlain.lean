/- What the numbers of a tally are: counts of events. -/
import Derived.Test.YtmdeepdediafbaaTallyOf
namespace Go.Proofs.Ytmdeepdediafbaa

/-- Is an event of a kind (below 0: any), and of an error (below 0: any)? -/
def isOf (kind err : Int) (e : Ev) : Bool := decide ((kind < 0 ∨ e.kind = kind) ∧ (err < 0 ∨ e.err = err))
/-- How many events are of a kind and of an error. -/
def cntOf (kind err : Int) (l : List Ev) : Nat := l.countP (isOf kind err)

theorem cntOf_le (kind err : Int) (l : List Ev) : cntOf kind err l ≤ l.length := List.countP_le_length
theorem cntOf_next (kind err : Int) (l : List Ev) (k : Nat) (h : k < l.length) : cntOf kind err (l.take (k + 1)) = cntOf kind err (l.take k) + if isOf kind err l[k] then 1 else 0 := by
  unfold cntOf
  rw [take_next l k h, List.countP_append, List.countP_singleton]

theorem incAt_eq (x : Nat → Int) (i j : Nat) : incAt x i j = x j + if j = i then 1 else 0 := by unfold incAt; split <;> omega

theorem bumpE_zero (err : Int) (x : Nat → Int) : bumpE err x 0 = x 0 := by
  unfold bumpE
  split
  · rw [incAt_eq, if_neg (by omega)]; omega
  · rfl
theorem bumpK_zero (kind err : Int) (x : Nat → Int) : bumpK kind err x 0 = x 0 := by
  unfold bumpK
  split
  · split
    · rw [incAt_eq, if_neg (by omega), incAt_eq, if_neg (by omega)]; omega
    · rw [incAt_eq, if_neg (by omega)]; omega
  · rfl
theorem bump_zero (e : Ev) (x : Nat → Int) : bump e x 0 = x 0 + 1 := by
  unfold bump
  rw [bumpE_zero, bumpK_zero, incAt_eq, if_pos rfl]

theorem bump_kind (e : Ev) (x : Nat → Int) (k : Nat) (hk : k < 13) : bump e x (1 + k) = x (1 + k) + if isOf k (-1) e then 1 else 0 := by
  have hi : isOf k (-1) e = decide (e.kind = k) := by unfold isOf; simp; omega
  rw [hi]
  have h1 : bumpE e.err (bumpK e.kind e.err (incAt x 0)) (1 + k) = bumpK e.kind e.err (incAt x 0) (1 + k) := by
    unfold bumpE
    split
    · rw [incAt_eq, if_neg (by omega)]; omega
    · rfl
  unfold bump
  rw [h1]
  unfold bumpK
  by_cases hek : e.kind = k
  · rw [if_pos (by omega), hek]
    simp only [Int.toNat_natCast, decide_true, if_true]
    split
    · rw [incAt_eq, if_neg (by omega), incAt_eq, if_pos rfl, incAt_eq, if_neg (by omega)]; omega
    · rw [incAt_eq, if_pos rfl, incAt_eq, if_neg (by omega)]; omega
  · simp only [hek, decide_false, Bool.false_eq_true, if_false]
    split
    · split
      · rw [incAt_eq, if_neg (by omega), incAt_eq, if_neg (by omega), incAt_eq, if_neg (by omega)]; omega
      · rw [incAt_eq, if_neg (by omega), incAt_eq, if_neg (by omega)]; omega
    · rw [incAt_eq, if_neg (by omega)]

theorem bump_well (e : Ev) (x : Nat → Int) (k : Nat) (hk : k < 13) : bump e x (14 + k) = x (14 + k) + if isOf k 0 e then 1 else 0 := by
  have hi : isOf k 0 e = decide (e.kind = k ∧ e.err = 0) := by
    unfold isOf
    congr 1
    apply propext
    constructor
    · rintro ⟨h1, h2⟩; constructor <;> omega
    · rintro ⟨h1, h2⟩; exact ⟨.inr h1, .inr h2⟩
  rw [hi]
  have h1 : bumpE e.err (bumpK e.kind e.err (incAt x 0)) (14 + k) = bumpK e.kind e.err (incAt x 0) (14 + k) := by
    unfold bumpE
    split
    · rw [incAt_eq, if_neg (by omega)]; omega
    · rfl
  unfold bump
  rw [h1]
  unfold bumpK
  by_cases hek : e.kind = k ∧ e.err = 0
  · rw [if_pos (by omega), if_pos hek.2, hek.1]
    simp only [Int.toNat_natCast, hek.2, and_self, decide_true, if_true]
    rw [incAt_eq, if_pos rfl, incAt_eq, if_neg (by omega), incAt_eq, if_neg (by omega)]; simp
  · simp only [hek, decide_false, Bool.false_eq_true, if_false]
    split
    · split
      · rw [incAt_eq, if_neg (by omega), incAt_eq, if_neg (by omega), incAt_eq, if_neg (by omega)]; omega
      · rw [incAt_eq, if_neg (by omega), incAt_eq, if_neg (by omega)]; omega
    · rw [incAt_eq, if_neg (by omega)]

theorem bump_err (e : Ev) (x : Nat → Int) (k : Nat) (hk : k < 17) : bump e x (27 + k) = x (27 + k) + if isOf (-1) k e then 1 else 0 := by
  have hi : isOf (-1) k e = decide (e.err = k) := by unfold isOf; simp; omega
  rw [hi]
  have h1 : bumpK e.kind e.err (incAt x 0) (27 + k) = x (27 + k) := by
    unfold bumpK
    split
    · split
      · rw [incAt_eq, if_neg (by omega), incAt_eq, if_neg (by omega), incAt_eq, if_neg (by omega)]; omega
      · rw [incAt_eq, if_neg (by omega), incAt_eq, if_neg (by omega)]; omega
    · rw [incAt_eq, if_neg (by omega)]; omega
  unfold bump bumpE
  by_cases hek : e.err = k
  · rw [if_pos (by omega), incAt_eq, if_pos (by omega), h1]
    simp [hek]
  · simp only [hek, decide_false, Bool.false_eq_true, if_false]
    split
    · rw [incAt_eq, if_neg (by omega), h1]
    · rw [h1]; omega

theorem foldl_count {i : Nat} {p : Ev → Bool} (h : ∀ e x, bump e x i = x i + if p e then 1 else 0) : ∀ (l : List Ev) (x : Nat → Int), l.foldl (fun x e => bump e x) x i = x i + (l.countP p : Nat)
  | [], x => by simp
  | e :: l, x => by
    rw [List.foldl_cons, foldl_count h l, h, List.countP_cons]
    split <;> omega

theorem count_all (l : List Ev) : countAll l 0 = l.length := by
  unfold countAll
  rw [foldl_count (p := fun _ => true) (fun e x => by rw [bump_zero]; rfl) l]
  simp
theorem count_kind (l : List Ev) (k : Nat) (hk : k < 13) : countAll l (1 + k) = cntOf k (-1) l := by
  unfold countAll cntOf
  rw [foldl_count (fun e x => bump_kind e x k hk) l]
  omega
theorem count_well (l : List Ev) (k : Nat) (hk : k < 13) : countAll l (14 + k) = cntOf k 0 l := by
  unfold countAll cntOf
  rw [foldl_count (fun e x => bump_well e x k hk) l]
  omega
theorem count_err (l : List Ev) (k : Nat) (hk : k < 17) : countAll l (27 + k) = cntOf (-1) k l := by
  unfold countAll cntOf
  rw [foldl_count (fun e x => bump_err e x k hk) l]
  omega

end Go.Proofs.Ytmdeepdediafbaa
