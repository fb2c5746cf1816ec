/- The plain law of a log's frames: which frame a record has, which records bytes have. No condition. -/
import Derived.Test.YthkccaifabpleaaCrcBurst
import Derived.Test.YthkccaifabpleaaCountPlain
namespace Go.Proofs.Ythkccaifabpleaa.Wal

/-- A record's frame. -/
def frame (n : Int) (l : List UInt8) : List UInt8 :=
  if 0 ≤ n ∧ n ≤ 1073741824 then Crc.seal' (Count.put n.toNat ++ Count.put l.length ++ l) else []

theorem seal_length (l : List UInt8) : (Crc.seal' l).length = l.length + 4 := by simp [Crc.seal', Crc.le4]

instance (l : List UInt8) : Decidable (Crc.whole l) := inferInstanceAs (Decidable (Crc.seal' (l.take (l.length - 4)) = l))

/-- The first record of bytes, if it is the n-th one, and how many bytes its frame has. -/
noncomputable def scan1 (b : List UInt8) (n : Nat) : Option (List UInt8 × Nat) :=
  if (Count.takeL b).2.2 ≠ 0 ∨ (Count.takeL b).1 ≠ n then none
  else if (Count.takeL (b.drop (Count.takeL b).2.1)).2.2 ≠ 0 ∨
      b.length < (Count.takeL b).2.1 + (Count.takeL (b.drop (Count.takeL b).2.1)).2.1 + (Count.takeL (b.drop (Count.takeL b).2.1)).1 + 4 then none
  else if Crc.whole (b.take ((Count.takeL b).2.1 + (Count.takeL (b.drop (Count.takeL b).2.1)).2.1 + (Count.takeL (b.drop (Count.takeL b).2.1)).1 + 4)) then
    some ((b.drop ((Count.takeL b).2.1 + (Count.takeL (b.drop (Count.takeL b).2.1)).2.1)).take (Count.takeL (b.drop (Count.takeL b).2.1)).1,
      (Count.takeL b).2.1 + (Count.takeL (b.drop (Count.takeL b).2.1)).2.1 + (Count.takeL (b.drop (Count.takeL b).2.1)).1 + 4)
  else none

theorem scan1_err {b : List UInt8} {n a k c : Nat} (h : Count.takeL b = (a, k, c)) (hc : c ≠ 0 ∨ a ≠ n) : scan1 b n = none := by
  unfold scan1; rw [h, if_pos hc]
theorem scan1_err2 {b : List UInt8} {n k x m c : Nat} (h : Count.takeL b = (n, k, 0)) (h2 : Count.takeL (b.drop k) = (x, m, c)) (hc : c ≠ 0 ∨ b.length < k + m + x + 4) : scan1 b n = none := by
  unfold scan1; rw [h]; simp only []; rw [if_neg (by simp), h2]; simp only []; rw [if_pos hc]
theorem scan1_torn {b : List UInt8} {n k x m : Nat} (h : Count.takeL b = (n, k, 0)) (h2 : Count.takeL (b.drop k) = (x, m, 0)) (hl : k + m + x + 4 ≤ b.length)
    (hw : ¬ Crc.whole (b.take (k + m + x + 4))) : scan1 b n = none := by
  unfold scan1; rw [h]; simp only []; rw [if_neg (by simp), h2]; simp only []; rw [if_neg (by simp; omega), if_neg hw]
theorem scan1_some {b : List UInt8} {n k x m : Nat} (h : Count.takeL b = (n, k, 0)) (h2 : Count.takeL (b.drop k) = (x, m, 0)) (hl : k + m + x + 4 ≤ b.length)
    (hw : Crc.whole (b.take (k + m + x + 4))) : scan1 b n = some ((b.drop (k + m)).take x, k + m + x + 4) := by
  unfold scan1; rw [h]; simp only []; rw [if_neg (by simp), h2]; simp only []; rw [if_neg (by simp; omega), if_pos hw]

/-- What is known of Take's answer. -/
theorem take_facts (l : List UInt8) : ∃ a b c, Count.takeL l = (a, b, c) ∧ ((c ≠ 0 ∧ a = 0 ∧ b = 0) ∨ (c = 0 ∧ 1 ≤ b ∧ b ≤ l.length ∧ a ≤ 1073741824 ∧ b ≤ 5 ∧ Count.put a = l.take b)) := by
  have h := Count.take_one l
  obtain ⟨a, b, c, ht⟩ : ∃ a b c, Count.takeL l = (a, b, c) := ⟨_, _, _, rfl⟩
  rw [ht] at h
  simp only at h
  refine ⟨a, b, c, ht, ?_⟩
  rcases h with ⟨h1, h2, h3⟩ | ⟨h1, h2, h3, h4, h5⟩
  · exact .inl ⟨h1, h2, h3⟩
  · refine .inr ⟨h1, h2, h3, h4, ?_, h5⟩
    have := Count.put_length5 h4
    have h6 : (Count.put a).length = b := by rw [h5, List.length_take]; omega
    omega

theorem scan1_cases (b : List UInt8) (n : Nat) : scan1 b n = none ∨ ∃ s k, scan1 b n = some (s, k) ∧ 5 ≤ k ∧ k ≤ b.length ∧ s.length + 4 < k ∧ b.take k = frame n s ∧ (n : Int) ≤ 1073741824 := by
  obtain ⟨a, k, c, h, hf⟩ := take_facts b
  rcases hf with ⟨hc, _, _⟩ | ⟨rfl, h1, h2, h3, h4, h5⟩
  · exact .inl (scan1_err h (.inl hc))
  · by_cases hn : a = n
    · subst hn
      obtain ⟨x, m, c, g, hg⟩ := take_facts (b.drop k)
      rcases hg with ⟨hc, _, _⟩ | ⟨rfl, g1, g2, g3, g4, g5⟩
      · exact .inl (scan1_err2 h g (.inl hc))
      · by_cases hl : k + m + x + 4 ≤ b.length
        · by_cases hw : Crc.whole (b.take (k + m + x + 4))
          · right
            have hlen : ((b.drop (k + m)).take x).length = x := by rw [List.length_take, List.length_drop]; omega
            refine ⟨_, _, scan1_some h g hl hw, by omega, hl, by rw [hlen]; omega, ?_, by omega⟩
            unfold frame
            rw [if_pos (by omega), show (a : Int).toNat = a from rfl, h5, hlen, g5]
            unfold Crc.whole at hw
            rw [List.length_take, Nat.min_eq_left hl, show k + m + x + 4 - 4 = k + m + x from by omega, List.take_take, Nat.min_eq_left (by omega)] at hw
            rw [← hw]
            congr 1
            rw [show k + m + x = k + (m + x) from by omega, List.take_add, List.take_add, ← List.append_assoc, List.drop_drop]
          · exact .inl (scan1_torn h g hl hw)
        · exact .inl (scan1_err2 h g (.inr (by omega)))
    · exact .inl (scan1_err h (.inr hn))

/-- The records of bytes from the n-th one on, and how many bytes their frames have. -/
noncomputable def scan (b : List UInt8) (n : Nat) : List (List UInt8) × Nat :=
  match _h : scan1 b n with
  | none => ([], 0)
  | some (s, k) => (s :: (scan (b.drop k) (n + 1)).1, k + (scan (b.drop k) (n + 1)).2)
termination_by b.length
decreasing_by
  have := scan1_cases b n
  rw [_h] at this
  rcases this with h0 | ⟨s', k', h1, h2, h3, _⟩
  · cases h0
  · cases h1; simp only [List.length_drop]; omega

theorem scan_none {b : List UInt8} {n : Nat} (h : scan1 b n = none) : scan b n = ([], 0) := by
  rw [scan]; split
  · rfl
  · rename_i h2; rw [h] at h2; cases h2
theorem scan_some {b : List UInt8} {n : Nat} {s : List UInt8} {k : Nat} (h : scan1 b n = some (s, k)) :
    scan b n = (s :: (scan (b.drop k) (n + 1)).1, k + (scan (b.drop k) (n + 1)).2) := by
  rw [scan]; split
  · rename_i h2; rw [h] at h2; cases h2
  · rename_i h2; rw [h] at h2; cases h2; rfl

end Go.Proofs.Ythkccaifabpleaa.Wal
