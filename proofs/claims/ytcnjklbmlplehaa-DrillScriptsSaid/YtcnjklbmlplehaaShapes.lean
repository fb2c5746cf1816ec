/- How wide graphs are; lines, rings and stars. -/
import Derived.Test.YtcnjklbmlplehaaLinks
namespace Go.Proofs.Ytcnjklbmlplehaa

namespace GR
variable {n : Nat} {adj : Nat → Nat → Bool} {p : Nat}

/-- The greatest of some numbers, and a first one. -/
def maxOf (a : Int) (l : List Int) : Int := l.foldl max a
theorem maxOf_max (a b : Int) (l : List Int) : maxOf (max a b) l = max a (maxOf b l) := by
  unfold maxOf
  induction l generalizing b with
  | nil => rfl
  | cons c l ih =>
    rw [List.foldl_cons, List.foldl_cons, show max (max a b) c = max a (max b c) by omega, ih]
theorem maxOf_ge (a : Int) (l : List Int) : a ≤ maxOf a l ∧ ∀ x ∈ l, x ≤ maxOf a l := by
  induction l generalizing a with
  | nil => exact ⟨Int.le_refl _, fun x h => by cases h⟩
  | cons c l ih =>
    obtain ⟨h1, h2⟩ := ih (max a c)
    show a ≤ maxOf (max a c) l ∧ ∀ x ∈ c :: l, x ≤ maxOf (max a c) l
    refine ⟨by omega, fun x hx => ?_⟩
    rcases List.mem_cons.1 hx with rfl | hx
    · omega
    · exact h2 x hx
theorem maxOf_mem (a : Int) (l : List Int) : maxOf a l = a ∨ maxOf a l ∈ l := by
  induction l generalizing a with
  | nil => exact .inl rfl
  | cons c l ih =>
    show maxOf (max a c) l = a ∨ maxOf (max a c) l ∈ c :: l
    rcases ih (max a c) with h | h
    · rw [h]
      by_cases hac : a ≤ c
      · exact .inr (by rw [show max a c = c by omega]; exact List.mem_cons_self ..)
      · exact .inl (by omega)
    · exact .inr (List.mem_cons_of_mem _ h)
theorem maxOf_app (a : Int) (l m : List Int) : maxOf a (l ++ m) = maxOf (maxOf a l) m := List.foldl_append ..

/-- All ways of a graph, peer by peer. -/
def row (n : Nat) (adj : Nat → Nat → Bool) (p : Nat) : List Int := (List.range n).map (dz n adj p)
def rows (n : Nat) (adj : Nat → Nat → Bool) (k : Nat) : List Int := (List.range k).flatMap (row n adj)
def wide (n : Nat) (adj : Nat → Nat → Bool) : Int := maxOf 0 (rows n adj n)
theorem rows_next (k : Nat) : rows n adj (k + 1) = rows n adj k ++ row n adj k := by
  unfold rows
  rw [List.range_succ, List.flatMap_append]
  simp
theorem mem_rows {k : Nat} {x : Int} : x ∈ rows n adj k ↔ ∃ p v, p < k ∧ v < n ∧ x = dz n adj p v := by
  unfold rows row
  rw [List.mem_flatMap]
  constructor
  · rintro ⟨p, hp, hx⟩
    rw [List.mem_map] at hx
    obtain ⟨v, hv, rfl⟩ := hx
    exact ⟨p, v, List.mem_range.1 hp, List.mem_range.1 hv, rfl⟩
  · rintro ⟨p, v, hp, hv, rfl⟩
    exact ⟨p, List.mem_range.2 hp, List.mem_map.2 ⟨v, List.mem_range.2 hv, rfl⟩⟩
theorem wide_ge {v : Nat} (hp : p < n) (hv : v < n) : dz n adj p v ≤ wide n adj := (maxOf_ge 0 _).2 _ (mem_rows.2 ⟨p, v, hp, hv, rfl⟩)
theorem wide_nonneg : 0 ≤ wide n adj := (maxOf_ge 0 _).1
theorem wide_eq {W : Int} (h0 : 0 ≤ W) (h : ∀ p v, p < n → v < n → dz n adj p v ≤ W) (hx : W = 0 ∨ ∃ p v, p < n ∧ v < n ∧ dz n adj p v = W) : wide n adj = W := by
  have h1 : wide n adj ≤ W := by
    unfold wide
    rcases maxOf_mem 0 (rows n adj n) with e | e
    · rw [e]; exact h0
    · obtain ⟨p, v, hp, hv, he⟩ := mem_rows.1 e
      rw [he]; exact h p v hp hv
  have h2 : W ≤ wide n adj := by
    rcases hx with rfl | ⟨p, v, hp, hv, rfl⟩
    · exact wide_nonneg
    · exact wide_ge hp hv
  omega
theorem dz_bounds (hg : Gr n adj) (hp : p < n) (v : Nat) : -1 ≤ dz n adj p v ∧ dz n adj p v < n := by
  rcases dz_cases hg hp v with ⟨h, _⟩ | ⟨d, h, _, hd⟩ <;> omega
theorem wide_lt (hg : Gr n adj) (hn : 1 ≤ n) : wide n adj < n := by
  unfold wide
  rcases maxOf_mem 0 (rows n adj n) with e | e
  · rw [e]; omega
  · obtain ⟨p, v, hp, hv, he⟩ := mem_rows.1 e
    rw [he]; exact (dz_bounds hg hp v).2
theorem maxOf_bounds (a : Int) (l : List Int) (B : Int) (ha : a < B) (h : ∀ x ∈ l, x < B) : maxOf a l < B := by
  rcases maxOf_mem a l with e | e
  · rw [e]; exact ha
  · exact h _ e

/-- Is there a way between each two peers? -/
def whole (n : Nat) (adj : Nat → Nat → Bool) : Bool := !((row n adj 0).contains (-1))
def wholeTo (n : Nat) (adj : Nat → Nat → Bool) (k : Nat) : Bool := (rows n adj k).all fun x => decide (0 ≤ x)
theorem ball_trans (hg : Gr n adj) {u v k m : Nat} (h1 : ball n adj p k u = true) (h2 : ball n adj u m v = true) : ball n adj p (k + m) v = true := by
  induction m generalizing v with
  | zero =>
    have : v = u := by unfold ball at h2; simpa using h2
    rw [this]; exact h1
  | succ m ih =>
    rcases (ball_succ hg).1 h2 with h | ⟨x, h, ha⟩
    · exact ball_mono (by omega) (ih h)
    · exact (ball_succ hg).2 (.inr ⟨x, ih h, ha⟩)
theorem dz_nonneg_iff (hg : Gr n adj) (hp : p < n) (v : Nat) : 0 ≤ dz n adj p v ↔ ∃ k, ball n adj p k v = true := by
  rcases dz_cases hg hp v with ⟨h1, h2⟩ | ⟨d, h1, h2, _⟩
  · rw [h1]
    refine ⟨fun h => by omega, ?_⟩
    rintro ⟨k, hk⟩
    rw [h2 k] at hk; cases hk
  · rw [h1]
    exact ⟨fun _ => ⟨d, h2.1⟩, fun _ => Int.natCast_nonneg d⟩
theorem whole_iff (hg : Gr n adj) (hn : 1 ≤ n) : whole n adj = true ↔ ∀ p v, p < n → v < n → 0 ≤ dz n adj p v := by
  unfold whole
  rw [Bool.not_eq_true', ← Bool.not_eq_true, List.contains_iff_mem]
  have hrow : (-1 : Int) ∈ row n adj 0 ↔ ∃ v, v < n ∧ dz n adj 0 v = -1 := by
    unfold row
    rw [List.mem_map]
    constructor
    · rintro ⟨v, hv, h⟩; exact ⟨v, List.mem_range.1 hv, h⟩
    · rintro ⟨v, hv, h⟩; exact ⟨v, List.mem_range.2 hv, h⟩
  rw [hrow]
  constructor
  · intro h p v hp hv
    have hz : ∀ v, v < n → 0 ≤ dz n adj 0 v := fun v hv => by
      have := (dz_bounds hg (p := 0) (by omega) v).1
      have hne : dz n adj 0 v ≠ -1 := fun e => h ⟨v, hv, e⟩
      omega
    obtain ⟨k, hk⟩ := (dz_nonneg_iff hg (p := 0) (by omega) p).1 (hz p hp)
    obtain ⟨m, hm⟩ := (dz_nonneg_iff hg (p := 0) (by omega) v).1 (hz v hv)
    exact (dz_nonneg_iff hg hp v).2 ⟨_, ball_trans hg (ball_symm hg hk) hm⟩
  · rintro h ⟨v, hv, e⟩
    have := h 0 v (by omega) hv
    omega
theorem wholeTo_next (k : Nat) : wholeTo n adj (k + 1) = (wholeTo n adj k && (row n adj k).all fun x => decide (0 ≤ x)) := by unfold wholeTo; rw [rows_next, List.all_append]
theorem wholeTo_eq (hg : Gr n adj) (hn : 1 ≤ n) : wholeTo n adj n = whole n adj := by
  rw [Bool.eq_iff_iff, whole_iff hg hn]
  unfold wholeTo
  rw [List.all_eq_true]
  constructor
  · intro h p v hp hv
    exact of_decide_eq_true (h _ (mem_rows.2 ⟨p, v, hp, hv, rfl⟩))
  · intro h x hx
    obtain ⟨p, v, hp, hv, rfl⟩ := mem_rows.1 hx
    exact decide_eq_true (h p v hp hv)
theorem row_length (p : Nat) : (row n adj p).length = n := by unfold row; rw [List.length_map, List.length_range]
theorem row_get (p v : Nat) (hv : v < n) : (row n adj p)[v]? = some (dz n adj p v) := by unfold row; rw [List.getElem?_map, List.getElem?_range hv]; rfl
/-- What Far answers. -/
def farZ (n : Nat) (adj : Nat → Nat → Bool) (p q : Int) : Int := if 0 ≤ p ∧ p < n ∧ 0 ≤ q ∧ q < n then dz n adj p.toNat q.toNat else -1
theorem dz_self (hg : Gr n adj) (hp : p < n) : dz n adj p p = 0 := dz_some hg hp (d := 0) ⟨by unfold ball; simp, fun k hk => absurd hk (Nat.not_lt_zero _)⟩
theorem dz_zero_iff (hg : Gr n adj) (hp : p < n) (v : Nat) : dz n adj p v = 0 ↔ v = p := by
  constructor
  · intro h
    rcases dz_cases hg hp v with ⟨h1, _⟩ | ⟨d, h1, h2, _⟩
    · omega
    · have hd : d = 0 := by omega
      subst hd
      have := h2.1
      unfold ball at this
      simpa using this
  · rintro rfl; exact dz_self hg hp
/-- By one edge a way grows by one at the most. -/
theorem dz_edge (hg : Gr n adj) (hp : p < n) {u v : Nat} (h : adj u v = true) : (0 ≤ dz n adj p u ↔ 0 ≤ dz n adj p v) ∧ (0 ≤ dz n adj p u → dz n adj p v ≤ dz n adj p u + 1) := by
  have one : ∀ {a b : Nat}, adj a b = true → 0 ≤ dz n adj p a → 0 ≤ dz n adj p b ∧ dz n adj p b ≤ dz n adj p a + 1 := by
    intro a b hab h0
    rcases dz_cases hg hp a with ⟨h1, _⟩ | ⟨d, h1, h2, _⟩
    · omega
    · have hb : ball n adj p (d + 1) b = true := (ball_succ hg).2 (.inr ⟨a, h2.1, hab⟩)
      obtain ⟨e, he, hd⟩ := dist_of_ball hb
      rw [dz_some hg hp hd, h1]
      omega
  refine ⟨⟨fun h0 => (one h h0).1, fun h0 => (one (by rw [hg.symm]; exact h) h0).1⟩, fun h0 => (one h h0).2⟩
end GR

end Go.Proofs.Ytcnjklbmlplehaa
