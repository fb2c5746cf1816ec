/- The document's gaps, dot by dot. -/
import Derived.Test.YtdgjjlffdfpkcaaDotsGapsPlain
namespace Go.Proofs.Ytdgjjlffdfpkcaa

namespace DS
/-- The document's gaps on the way: those of the first peers, and those of the next one below a count. -/
def gapsN (s : S) (k : Nat) (n : Int) : List Dot := gapsTo s k ++ (rng k (Vec.cnt s.base k + 1) n).filter fun d => decide (d ∉ s.extra)
theorem gapsN_start (s : S) (k : Nat) : gapsN s k (Vec.cnt s.base k + 1) = gapsTo s k := by
  unfold gapsN
  rw [rng_nil (Int.le_refl _), List.filter_nil, List.append_nil]
theorem gapsN_end (s : S) (k : Nat) (n : Int) (h : topOf k s.extra ≤ n) (h2 : n = Vec.cnt s.base k + 1 ∨ n ≤ topOf k s.extra) : gapsN s k n = gapsTo s (k + 1) := by
  unfold gapsN
  show _ = gapsTo s k ++ gapsAt s k
  unfold gapsAt
  rcases h2 with h2 | h2
  · rw [h2, rng_nil (Int.le_refl _), rng_nil (b := topOf k s.extra) (by omega)]
  · rw [show n = topOf k s.extra by omega]
theorem gapsN_step (s : S) (k : Nat) (n : Int) (h : Vec.cnt s.base k + 1 ≤ n) : gapsN s k (n + 1) = gapsN s k n ++ if ((k : Int), n) ∈ s.extra then [] else [((k : Int), n)] := by
  unfold gapsN
  rw [rng_snoc h, List.filter_append, List.append_assoc]
  congr 2
  by_cases hm : ((k : Int), n) ∈ s.extra
  · rw [if_pos hm, List.filter_cons_of_neg (by simpa using hm), List.filter_nil]
  · rw [if_neg hm, List.filter_cons_of_pos (by simpa using hm), List.filter_nil]
theorem rng_app {p a b c : Int} (h1 : a ≤ b) (h2 : b ≤ c) : rng p a c = rng p a b ++ rng p b c := by
  obtain ⟨m, rfl⟩ : ∃ m : Nat, c = b + m := ⟨(c - b).toNat, by omega⟩
  clear h2
  induction m with
  | zero => rw [rng_nil (a := b) (by omega), List.append_nil]; simp
  | succ m ih => rw [show b + ((m + 1 : Nat) : Int) = (b + m) + 1 by omega, rng_snoc (by omega), rng_snoc (by omega), ih, List.append_assoc]
theorem gapsN_prefix (s : S) (k : Nat) (n : Int) (h : Vec.cnt s.base k + 1 ≤ n) (h2 : n ≤ topOf k s.extra) : ∃ r, gapsTo s (k + 1) = gapsN s k n ++ r := by
  rw [← gapsN_end s k (topOf k s.extra) (Int.le_refl _) (.inr (Int.le_refl _))]
  unfold gapsN
  rw [rng_app h h2, List.filter_append]
  exact ⟨_, (List.append_assoc ..).symm⟩

/-- A row that is full stays; one that is not takes the next. -/
theorem take_full {α : Type} (l r : List α) (m : Nat) (h : m ≤ (l.take m).length) : (l ++ r).take m = l.take m := by
  rw [List.length_take] at h
  exact List.take_append_of_le_length (by omega)
theorem take_less {α : Type} (l : List α) (m : Nat) (h : (l.take m).length < m) : l.take m = l ∧ l.length < m := by
  rw [List.length_take] at h
  have : l.length < m := by omega
  exact ⟨List.take_of_length_le (by omega), this⟩
/-- One round: a dot that lacks is put where there is room. -/
theorem gaps_round (s : S) (k : Nat) (n : Int) (m : Nat) (h : Vec.cnt s.base k + 1 ≤ n) (hl : ((gapsN s k n).take m).length < m) : (gapsN s k (n + 1)).take m = (gapsN s k n).take m ++ if ((k : Int), n) ∈ s.extra then [] else [((k : Int), n)] := by
  obtain ⟨h1, h2⟩ := take_less _ _ hl
  rw [h1, gapsN_step s k n h]
  refine List.take_of_length_le ?_
  rw [List.length_append]
  split
  · simp; omega
  · simp; omega
/-- The peer's end. -/
theorem gaps_peer (s : S) (k : Nat) (n : Int) (m : Nat) (h : Vec.cnt s.base k + 1 ≤ n) (h2 : n = Vec.cnt s.base k + 1 ∨ n ≤ topOf k s.extra) (hl : topOf k s.extra ≤ n ∨ m ≤ ((gapsN s k n).take m).length) : (gapsN s k n).take m = (gapsTo s (k + 1)).take m := by
  rcases hl with hl | hl
  · rw [gapsN_end s k n hl h2]
  · by_cases ht : topOf k s.extra ≤ n
    · rw [gapsN_end s k n ht h2]
    · obtain ⟨r, hr⟩ := gapsN_prefix s k n h (by omega)
      rw [hr, take_full _ _ _ hl]
/-- The dots of the document's gaps may be kept. -/
theorem topOf_le (p : Int) (l : List Dot) (B : Int) (hB : 0 ≤ B) (h : ∀ d ∈ l, 0 ≤ d.2 ∧ d.2 ≤ B) : 0 ≤ topOf p l ∧ topOf p l ≤ B := by
  unfold topOf
  suffices ∀ t : Int, 0 ≤ t ∧ t ≤ B → 0 ≤ l.foldl (fun t d => if d.1 = p then d.2 else t) t ∧ l.foldl (fun t d => if d.1 = p then d.2 else t) t ≤ B from this 0 ⟨by omega, by omega⟩
  induction l with
  | nil => intro t ht; exact ht
  | cons d l ih =>
    intro t ht
    rw [List.foldl_cons]
    refine ih (fun x hx => h x (List.mem_cons_of_mem _ hx)) _ ?_
    split
    · exact h d (List.mem_cons_self ..)
    · exact ht
end DS

end Go.Proofs.Ytdgjjlffdfpkcaa
