/- The plain law of the sum of thirty-two bits: how its register goes on, bit by bit and byte by byte; it is linear over exclusive or, and loses nothing. No condition. -/
namespace Go.Proofs.Ythkccaifabpleaa.Crc

/-- One bit goes out of the register. -/
def bit (v : Nat) : Nat := if v % 2 = 1 then v / 2 ^^^ 3988292384 else v / 2
def bitN : Nat → Nat → Nat
  | 0, v => v
  | n + 1, v => bitN n (bit v)
/-- Bytes go in. -/
def reg (v : Nat) (l : List UInt8) : Nat := l.foldl (fun v b => bitN 8 (v ^^^ b.toNat)) v
/-- The sum of bytes. -/
def sum (l : List UInt8) : Nat := 4294967295 - reg 4294967295 l
def le4 (v : Nat) : List UInt8 := [UInt8.ofNat v, UInt8.ofNat (v / 256), UInt8.ofNat (v / 65536), UInt8.ofNat (v / 16777216)]
def seal' (l : List UInt8) : List UInt8 := l ++ le4 (sum l)

theorem bit_lt {v : Nat} (h : v < 4294967296) : bit v < 4294967296 := by
  unfold bit
  split
  · exact Nat.xor_lt_two_pow (n := 32) (by omega) (by omega)
  · omega

theorem bitN_lt (n : Nat) : ∀ {v : Nat}, v < 4294967296 → bitN n v < 4294967296 := by
  induction n with
  | zero => intro v h; exact h
  | succ n ih => intro v h; exact ih (bit_lt h)

theorem xor_lt {a b : Nat} (ha : a < 4294967296) (hb : b < 4294967296) : a ^^^ b < 4294967296 := Nat.xor_lt_two_pow (n := 32) ha hb

theorem reg_lt (l : List UInt8) : ∀ {v : Nat}, v < 4294967296 → reg v l < 4294967296 := by
  induction l with
  | nil => intro v h; exact h
  | cons b l ih =>
    intro v h
    exact ih (bitN_lt 8 (xor_lt h (by have := b.toNat_lt; omega)))

theorem reg_snoc (v : Nat) (l : List UInt8) (b : UInt8) : reg v (l ++ [b]) = bitN 8 (reg v l ^^^ b.toNat) := by
  unfold reg; rw [List.foldl_append]; rfl

theorem reg_append (v : Nat) (l m : List UInt8) : reg v (l ++ m) = reg (reg v l) m := by
  unfold reg; rw [List.foldl_append]

theorem xor_div2 (a b : Nat) : (a ^^^ b) / 2 = a / 2 ^^^ b / 2 := Nat.xor_div_two

theorem bit_xor (a b : Nat) : bit (a ^^^ b) = bit a ^^^ bit b := by
  unfold bit
  rw [xor_div2]
  have h : (a ^^^ b) % 2 = 1 ↔ ¬ (a % 2 = 1 ↔ b % 2 = 1) := Nat.xor_mod_two_eq_one
  by_cases ha : a % 2 = 1 <;> by_cases hb : b % 2 = 1 <;> simp [h, ha, hb]
  · rw [Nat.xor_assoc, ← Nat.xor_assoc 3988292384, Nat.xor_comm 3988292384, Nat.xor_assoc, Nat.xor_self, Nat.xor_zero]
  · rw [Nat.xor_assoc, Nat.xor_comm (b / 2), Nat.xor_assoc]
  · rw [Nat.xor_assoc]

theorem bitN_xor (n : Nat) : ∀ a b : Nat, bitN n (a ^^^ b) = bitN n a ^^^ bitN n b := by
  induction n with
  | zero => intro a b; rfl
  | succ n ih => intro a b; show bitN n (bit (a ^^^ b)) = _; rw [bit_xor, ih]; rfl

theorem bit_zero {c : Nat} (hc : c < 4294967296) (h : bit c = 0) : c = 0 := by
  unfold bit at h
  split at h
  · have e : c / 2 = 3988292384 := by
      have := congrArg (· ^^^ 3988292384) h
      simpa [Nat.xor_assoc] using this
    omega
  · omega

theorem bitN_zero (n : Nat) : ∀ {c : Nat}, c < 4294967296 → bitN n c = 0 → c = 0 := by
  induction n with
  | zero => intro c _ h; exact h
  | succ n ih => intro c hc h; exact bit_zero hc (ih (bit_lt hc) h)

theorem eq_of_xor_zero {a b : Nat} (h : a ^^^ b = 0) : a = b := by
  have := congrArg (· ^^^ b) h
  simpa [Nat.xor_assoc] using this

theorem bitN_inj (n : Nat) {a b : Nat} (ha : a < 4294967296) (hb : b < 4294967296) (h : bitN n a = bitN n b) : a = b := by
  refine eq_of_xor_zero (bitN_zero n (xor_lt ha hb) ?_)
  rw [bitN_xor, h, Nat.xor_self]

theorem xor_cancel {a b c : Nat} (h : a ^^^ c = b ^^^ c) : a = b := by
  have := congrArg (· ^^^ c) h
  simpa [Nat.xor_assoc] using this

theorem reg_inj (l : List UInt8) : ∀ {a b : Nat}, a < 4294967296 → b < 4294967296 → reg a l = reg b l → a = b := by
  induction l with
  | nil => intro a b _ _ h; exact h
  | cons x l ih =>
    intro a b ha hb h
    have hx : x.toNat < 4294967296 := by have := x.toNat_lt; omega
    exact xor_cancel (bitN_inj 8 (xor_lt ha hx) (xor_lt hb hx) (ih (bitN_lt 8 (xor_lt ha hx)) (bitN_lt 8 (xor_lt hb hx)) h))

/-- All bits turned. -/
theorem turn {v : Nat} (h : v < 4294967296) : 4294967295 ^^^ v = 4294967295 - v := by
  have e := congrArg BitVec.toNat (BitVec.allOnes_xor (x := BitVec.ofNat 32 v))
  rw [BitVec.toNat_xor, BitVec.toNat_not, BitVec.toNat_ofNat, BitVec.toNat_allOnes, Nat.mod_eq_of_lt (by omega)] at e
  simpa using e

theorem turn_turn {v : Nat} (h : v < 4294967296) : 4294967295 ^^^ (4294967295 - v) = v := by
  rw [turn (by omega)]; omega

theorem sum_eq (l : List UInt8) : sum l = 4294967295 ^^^ reg 4294967295 l := by
  unfold sum; rw [turn (reg_lt l (by omega))]

theorem sum_lt (l : List UInt8) : sum l < 4294967296 := by unfold sum; omega

theorem bitN_succ (n : Nat) : ∀ v, bitN (n + 1) v = bit (bitN n v) := by
  induction n with
  | zero => intro v; rfl
  | succ n ih => intro v; exact ih (bit v)

/-! Three texts of one length, put together. -/
theorem xor3 (v a b c x y z : Nat) : (a ^^^ b ^^^ c) ^^^ (x ^^^ y ^^^ z) ^^^ v ^^^ v = (a ^^^ x) ^^^ (b ^^^ y) ^^^ (c ^^^ z) := by
  rw [Nat.xor_assoc _ v v, Nat.xor_self, Nat.xor_zero]
  ac_rfl

theorem reg_xor3 : ∀ (l m n : List UInt8) (a b c : Nat), l.length = m.length → m.length = n.length →
    reg (a ^^^ b ^^^ c) ((l.zip (m.zip n)).map fun x => x.1 ^^^ x.2.1 ^^^ x.2.2) = reg a l ^^^ reg b m ^^^ reg c n
  | [], [], [], a, b, c, _, _ => rfl
  | x :: l, y :: m, z :: n, a, b, c, h1, h2 => by
    have ih := reg_xor3 l m n (bitN 8 (a ^^^ x.toNat)) (bitN 8 (b ^^^ y.toNat)) (bitN 8 (c ^^^ z.toNat)) (by simpa using h1) (by simpa using h2)
    show reg (bitN 8 ((a ^^^ b ^^^ c) ^^^ (x ^^^ y ^^^ z).toNat)) _ = _
    rw [UInt8.toNat_xor, UInt8.toNat_xor]
    have e : (a ^^^ b ^^^ c) ^^^ (x.toNat ^^^ y.toNat ^^^ z.toNat) = (a ^^^ x.toNat) ^^^ (b ^^^ y.toNat) ^^^ (c ^^^ z.toNat) := by ac_rfl
    rw [e, bitN_xor, bitN_xor]
    exact ih

theorem sum_xor3 (l m n : List UInt8) (h1 : l.length = m.length) (h2 : m.length = n.length) :
    sum ((l.zip (m.zip n)).map fun x => x.1 ^^^ x.2.1 ^^^ x.2.2) = sum l ^^^ sum m ^^^ sum n := by
  have h := reg_xor3 l m n 4294967295 4294967295 4294967295 h1 h2
  rw [show 4294967295 ^^^ 4294967295 ^^^ 4294967295 = 4294967295 from by decide] at h
  rw [sum_eq, h, sum_eq, sum_eq, sum_eq]
  generalize reg 4294967295 l = a
  generalize reg 4294967295 m = b
  generalize reg 4294967295 n = c
  have : (4294967295 ^^^ a) ^^^ (4294967295 ^^^ b) ^^^ (4294967295 ^^^ c) = (4294967295 ^^^ 4294967295) ^^^ (4294967295 ^^^ (a ^^^ b ^^^ c)) := by ac_rfl
  rw [this, Nat.xor_self, Nat.zero_xor]

/-! Four bytes that stand together. -/
theorem bit_even (d : Nat) : bit (2 * d) = d := by unfold bit; rw [if_neg (by omega)]; omega

theorem bitN_pow (n : Nat) : ∀ d : Nat, bitN n (2 ^ n * d) = d := by
  induction n with
  | zero => intro d; show 2 ^ 0 * d = d; simp
  | succ n ih =>
    intro d
    show bitN n (bit (2 ^ (n + 1) * d)) = d
    rw [Nat.pow_succ, Nat.mul_comm (2 ^ n) 2, Nat.mul_assoc, bit_even, ih]

theorem bitN_bitN (m n : Nat) : ∀ v, bitN m (bitN n v) = bitN (n + m) v := by
  induction n with
  | zero => intro v; rw [Nat.zero_add]; rfl
  | succ n ih => intro v; rw [Nat.add_right_comm]; exact ih (bit v)

theorem in8 (r d : Nat) : bitN 8 r ^^^ d = bitN 8 (r ^^^ 256 * d) := by
  rw [bitN_xor]; exact congrArg (bitN 8 r ^^^ ·) (bitN_pow 8 d).symm

/-- Four bytes are one step of thirty-two bits. -/
theorem reg4 (r : Nat) (a b c d : UInt8) : reg r [a, b, c, d] = bitN 32 (r ^^^ (a.toNat ^^^ 256 * b.toNat ^^^ 65536 * c.toNat ^^^ 16777216 * d.toNat)) := by
  show bitN 8 (bitN 8 (bitN 8 (bitN 8 (r ^^^ a.toNat) ^^^ b.toNat) ^^^ c.toNat) ^^^ d.toNat) = _
  rw [in8 (r ^^^ a.toNat)]
  rw [bitN_bitN, show (65536 : Nat) * c.toNat = 2 ^ 16 * c.toNat from rfl, show (16777216 : Nat) * d.toNat = 2 ^ 24 * d.toNat from rfl]
  rw [show bitN (8 + 8) (r ^^^ a.toNat ^^^ 256 * b.toNat) ^^^ c.toNat = bitN 16 (r ^^^ a.toNat ^^^ 256 * b.toNat ^^^ 2 ^ 16 * c.toNat) from by
    rw [bitN_xor 16 _ (2 ^ 16 * c.toNat), bitN_pow]]
  rw [bitN_bitN]
  rw [show bitN (16 + 8) (r ^^^ a.toNat ^^^ 256 * b.toNat ^^^ 2 ^ 16 * c.toNat) ^^^ d.toNat = bitN 24 (r ^^^ a.toNat ^^^ 256 * b.toNat ^^^ 2 ^ 16 * c.toNat ^^^ 2 ^ 24 * d.toNat) from by
    rw [bitN_xor 24 _ (2 ^ 24 * d.toNat), bitN_pow]]
  rw [bitN_bitN]
  congr 1
  ac_rfl

/-- A number out of its four bytes. -/
theorem add_xor (a b k : Nat) (h : a < 2 ^ k) : a ^^^ 2 ^ k * b = a + 2 ^ k * b := by
  apply Nat.eq_of_testBit_eq
  intro i
  rw [Nat.testBit_xor, Nat.add_comm, Nat.testBit_two_pow_mul_add b h, Nat.testBit_two_pow_mul]
  by_cases hi : i < k
  · simp [hi, Nat.not_le_of_lt hi]
  · have : a < 2 ^ i := Nat.lt_of_lt_of_le h (Nat.pow_le_pow_right (by omega) (by omega))
    simp [hi, Nat.le_of_not_lt hi, Nat.testBit_lt_two_pow this]

theorem of_bytes (v : Nat) (h : v < 4294967296) :
    v % 256 ^^^ 256 * (v / 256 % 256) ^^^ 65536 * (v / 65536 % 256) ^^^ 16777216 * (v / 16777216 % 256) = v := by
  have e1 := add_xor (v % 256) (v / 256 % 256) 8 (by omega)
  have e2 := add_xor (v % 256 + 2 ^ 8 * (v / 256 % 256)) (v / 65536 % 256) 16 (by omega)
  have e3 := add_xor (v % 256 + 2 ^ 8 * (v / 256 % 256) + 2 ^ 16 * (v / 65536 % 256)) (v / 16777216 % 256) 24 (by omega)
  rw [show (256 : Nat) = 2 ^ 8 from rfl] at *
  rw [show (65536 : Nat) = 2 ^ 16 from rfl, show (16777216 : Nat) = 2 ^ 24 from rfl] at *
  rw [e1, e2, e3]
  omega

end Go.Proofs.Ythkccaifabpleaa.Crc
