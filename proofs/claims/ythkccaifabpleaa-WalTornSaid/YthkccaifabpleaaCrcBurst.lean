/- The plain law of bursts: what is turned within four bytes that stand together is seen. No condition. -/
import Derived.Test.YthkccaifabpleaaCrcPlain
namespace Go.Proofs.Ythkccaifabpleaa.Crc

/-- Whether bytes are a sealed text. -/
def whole (l : List UInt8) : Prop := seal' (l.take (l.length - 4)) = l

/-- The register behind a sealed text is always the same. -/
theorem reg_sealed (t : List UInt8) : reg 4294967295 (seal' t) = bitN 32 4294967295 := by
  unfold seal'
  rw [reg_append]
  show reg _ [_, _, _, _] = _
  have hs := sum_lt t
  have h2 := of_bytes (sum t) hs
  rw [reg4]
  simp only [UInt8.toNat_ofNat']
  rw [show (2 : Nat) ^ 8 = 256 from rfl, h2]
  rw [sum_eq, ← Nat.xor_assoc, Nat.xor_comm (reg _ _), Nat.xor_assoc, Nat.xor_self, Nat.xor_zero]

theorem whole_reg {l : List UInt8} (h : whole l) : reg 4294967295 l = bitN 32 4294967295 := by
  unfold whole at h
  rw [← h]; exact reg_sealed _

/-- Bytes with the byte at a place turned. -/
def turn1 (l : List UInt8) (i : Nat) (x : UInt8) : List UInt8 := l.set i (l.getD i 0 ^^^ x)
theorem turn1_length (l : List UInt8) (i : Nat) (x : UInt8) : (turn1 l i x).length = l.length := by simp [turn1]

/-- Four bytes turned, one behind the other. -/
def turned (l : List UInt8) (f mask : Nat) : Nat → List UInt8
  | 0 => l
  | k + 1 => turn1 (turned l f mask k) (f + k) (UInt8.ofNat (mask / 256 ^ k))
theorem turned_length (l : List UInt8) (f mask k : Nat) : (turned l f mask k).length = l.length := by
  induction k with
  | zero => rfl
  | succ k ih => show (turn1 _ _ _).length = _; rw [turn1_length, ih]

theorem turn1_at (A B : List UInt8) (x y : UInt8) : turn1 (A ++ x :: B) A.length y = A ++ (x ^^^ y) :: B := by
  unfold turn1
  rw [List.set_append_right _ _ (by omega)]
  simp [List.getD]

theorem turned_at (A B : List UInt8) (a b c d : UInt8) (mask : Nat) :
    turned (A ++ a :: b :: c :: d :: B) A.length mask 4 =
      A ++ (a ^^^ UInt8.ofNat mask) :: (b ^^^ UInt8.ofNat (mask / 256)) :: (c ^^^ UInt8.ofNat (mask / 65536)) :: (d ^^^ UInt8.ofNat (mask / 16777216)) :: B := by
  show turn1 (turn1 (turn1 (turn1 _ (A.length + 0) _) (A.length + 1) _) (A.length + 2) _) (A.length + 3) _ = _
  rw [show turned (A ++ a :: b :: c :: d :: B) A.length mask 0 = A ++ a :: b :: c :: d :: B from rfl, Nat.add_zero, turn1_at]
  have e1 : A ++ (a ^^^ UInt8.ofNat (mask / 256 ^ 0)) :: b :: c :: d :: B = (A ++ [a ^^^ UInt8.ofNat mask]) ++ b :: c :: d :: B := by simp
  rw [e1]
  have l1 : A.length + 1 = (A ++ [a ^^^ UInt8.ofNat mask]).length := by simp
  rw [l1, turn1_at]
  have e2 : (A ++ [a ^^^ UInt8.ofNat mask]) ++ (b ^^^ UInt8.ofNat (mask / 256 ^ 1)) :: c :: d :: B = (A ++ [a ^^^ UInt8.ofNat mask, b ^^^ UInt8.ofNat (mask / 256)]) ++ c :: d :: B := by simp
  rw [e2]
  have l2 : A.length + 2 = (A ++ [a ^^^ UInt8.ofNat mask, b ^^^ UInt8.ofNat (mask / 256)]).length := by simp
  rw [l2, turn1_at]
  have e3 : (A ++ [a ^^^ UInt8.ofNat mask, b ^^^ UInt8.ofNat (mask / 256)]) ++ (c ^^^ UInt8.ofNat (mask / 256 ^ 2)) :: d :: B = (A ++ [a ^^^ UInt8.ofNat mask, b ^^^ UInt8.ofNat (mask / 256), c ^^^ UInt8.ofNat (mask / 65536)]) ++ d :: B := by simp
  rw [e3]
  have l3 : A.length + 3 = (A ++ [a ^^^ UInt8.ofNat mask, b ^^^ UInt8.ofNat (mask / 256), c ^^^ UInt8.ofNat (mask / 65536)]).length := by simp
  rw [l3, turn1_at]
  simp

theorem split4 (l : List UInt8) (f : Nat) (h : f + 4 ≤ l.length) : ∃ A a b c d B, l = A ++ a :: b :: c :: d :: B ∧ A.length = f := by
  refine ⟨l.take f, l[f], l[f + 1], l[f + 2], l[f + 3], l.drop (f + 4), ?_, by simp; omega⟩
  have e0 := List.drop_eq_getElem_cons (l := l) (i := f) (by omega)
  have e1 := List.drop_eq_getElem_cons (l := l) (i := f + 1) (by omega)
  have e2 := List.drop_eq_getElem_cons (l := l) (i := f + 2) (by omega)
  have e3 := List.drop_eq_getElem_cons (l := l) (i := f + 3) (by omega)
  rw [← e3, ← e2, ← e1, ← e0, List.take_append_drop]

theorem xor_byte (a : UInt8) (m : Nat) : (a ^^^ UInt8.ofNat m).toNat = a.toNat ^^^ m % 256 := by
  rw [UInt8.toNat_xor, UInt8.toNat_ofNat']

theorem mul_xor (k a b : Nat) : 2 ^ k * (a ^^^ b) = 2 ^ k * a ^^^ 2 ^ k * b := by
  apply Nat.eq_of_testBit_eq
  intro i
  rw [Nat.testBit_xor, Nat.testBit_two_pow_mul, Nat.testBit_two_pow_mul, Nat.testBit_two_pow_mul, Nat.testBit_xor]
  cases decide (i ≥ k) <;> simp

/-- The four bytes' word, turned. -/
theorem word_turned (a b c d : UInt8) (mask : Nat) (h : mask < 4294967296) :
    (a ^^^ UInt8.ofNat mask).toNat ^^^ 256 * (b ^^^ UInt8.ofNat (mask / 256)).toNat ^^^ 65536 * (c ^^^ UInt8.ofNat (mask / 65536)).toNat ^^^ 16777216 * (d ^^^ UInt8.ofNat (mask / 16777216)).toNat =
      (a.toNat ^^^ 256 * b.toNat ^^^ 65536 * c.toNat ^^^ 16777216 * d.toNat) ^^^ mask := by
  simp only [xor_byte]
  rw [show ∀ x y, 256 * (x ^^^ y) = 256 * x ^^^ 256 * y from mul_xor 8, show ∀ x y, 65536 * (x ^^^ y) = 65536 * x ^^^ 65536 * y from mul_xor 16,
    show ∀ x y, 16777216 * (x ^^^ y) = 16777216 * x ^^^ 16777216 * y from mul_xor 24]
  have e := of_bytes mask h
  generalize mask % 256 = m0 at e ⊢
  generalize 256 * (mask / 256 % 256) = m1 at e ⊢
  generalize 65536 * (mask / 65536 % 256) = m2 at e ⊢
  generalize 16777216 * (mask / 16777216 % 256) = m3 at e ⊢
  rw [← e]
  ac_rfl

/-- A burst is seen. -/
theorem burst (t : List UInt8) (f mask : Nat) (hf : f ≤ t.length) (hm : mask < 4294967296) (h0 : mask ≠ 0) : ¬ whole (turned (seal' t) f mask 4) := by
  intro hw
  have hl : (seal' t).length = t.length + 4 := by simp [seal', le4]
  obtain ⟨A, a, b, c, d, B, hs, hA⟩ := split4 (seal' t) f (by omega)
  have h1 := reg_sealed t
  have h2 := whole_reg hw
  rw [hs, ← hA, turned_at] at h2
  rw [hs] at h1
  have r1 : ∀ (w x y z : UInt8), reg 4294967295 (A ++ w :: x :: y :: z :: B) = reg (reg (reg 4294967295 A) [w, x, y, z]) B := by
    intro w x y z
    rw [← reg_append, ← reg_append]; simp
  rw [r1, reg4] at h1 h2
  rw [word_turned a b c d mask hm] at h2
  have hr := reg_lt A (v := 4294967295) (by omega)
  generalize reg 4294967295 A = r at h1 h2 hr
  have hW : a.toNat ^^^ 256 * b.toNat ^^^ 65536 * c.toNat ^^^ 16777216 * d.toNat < 4294967296 :=
    xor_lt (xor_lt (xor_lt (by have := a.toNat_lt; omega) (by have := b.toNat_lt; omega)) (by have := c.toNat_lt; omega)) (by have := d.toNat_lt; omega)
  generalize a.toNat ^^^ 256 * b.toNat ^^^ 65536 * c.toNat ^^^ 16777216 * d.toNat = W at h1 h2 hW
  have e := reg_inj B (bitN_lt 32 (xor_lt hr (xor_lt hW hm))) (bitN_lt 32 (xor_lt hr hW)) (h2.trans h1.symm)
  have e2 := bitN_inj 32 (xor_lt hr (xor_lt hW hm)) (xor_lt hr hW) e
  apply h0
  have e3 : mask = (r ^^^ (W ^^^ mask)) ^^^ (r ^^^ W) := by
    have : (r ^^^ (W ^^^ mask)) ^^^ (r ^^^ W) = (r ^^^ r) ^^^ ((W ^^^ W) ^^^ mask) := by ac_rfl
    rw [this, Nat.xor_self, Nat.xor_self, Nat.zero_xor, Nat.zero_xor]
  rw [e3, e2, Nat.xor_self]

theorem xor_none (l : List UInt8) (i : Nat) : turn1 l i (UInt8.ofNat 0) = l := by
  unfold turn1
  rw [show UInt8.ofNat 0 = 0 from rfl, UInt8.xor_zero]
  by_cases h : i < l.length
  · simp [List.getD, h]
  · rw [List.set_eq_of_length_le (by omega)]

theorem turned_none (l : List UInt8) (f k : Nat) : turned l f 0 k = l := by
  induction k with
  | zero => rfl
  | succ k ih => show turn1 (turned l f 0 k) _ _ = _; rw [ih, Nat.zero_div, xor_none]

theorem whole_seal (t : List UInt8) : whole (seal' t) ∧ (seal' t).take ((seal' t).length - 4) = t := by
  have e : (seal' t).take ((seal' t).length - 4) = t := by
    unfold seal'
    rw [List.length_append, show (le4 (sum t)).length = 4 from rfl, Nat.add_sub_cancel]; simp
  exact ⟨by unfold whole; rw [e], e⟩

end Go.Proofs.Ythkccaifabpleaa.Crc
