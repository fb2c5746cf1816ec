/- The plain law of numbers as bytes: which bytes a number has, which number bytes begin with. No condition. -/
namespace Go.Proofs.Ythkccaifabpleaa.Count

/-- A number's bytes. -/
def put (n : Nat) : List UInt8 := if n < 128 then [UInt8.ofNat n] else UInt8.ofNat (n % 128 + 128) :: put (n / 128)
termination_by n
decreasing_by omega

theorem put_small {n : Nat} (h : n < 128) : put n = [UInt8.ofNat n] := by rw [put, if_pos h]
theorem put_great {n : Nat} (h : ¬ n < 128) : put n = UInt8.ofNat (n % 128 + 128) :: put (n / 128) := by rw [put, if_neg h]

theorem put_length (k : Nat) : ∀ n, n < 128 ^ (k + 1) → (put n).length ≤ k + 1 := by
  induction k with
  | zero => intro n h; rw [put_small (by simpa using h)]; simp
  | succ k ih =>
    intro n h
    by_cases hn : n < 128
    · rw [put_small hn]; simp
    · rw [put_great hn, List.length_cons]
      have := ih (n / 128) (by rw [Nat.div_lt_iff_lt_mul (by omega)]; rw [Nat.pow_succ] at h; exact h)
      omega

theorem put_length5 {n : Nat} (h : n ≤ 1073741824) : (put n).length ≤ 5 := put_length 4 n (by rw [show (128 : Nat) ^ (4 + 1) = 34359738368 from by decide]; omega)

/-- What Put answers. -/
def putL (n : Int) : List UInt8 := if 0 ≤ n ∧ n ≤ 1073741824 then put n.toNat else []

/-- The number that bytes come to, the lowest first. -/
def val : List UInt8 → Nat
  | [] => 0
  | b :: l => b.toNat % 128 + 128 * val l

/-- The place of the first byte below 128, among the first k. -/
def more (l : List UInt8) (k : Nat) : Prop := ∀ j b, j < k → l[j]? = some b → 128 ≤ b.toNat
def ends (l : List UInt8) (k : Nat) : Prop := k < 5 ∧ more l k ∧ ∃ b, l[k]? = some b ∧ b.toNat < 128

theorem ends_or (l : List UInt8) : (∃ k, ends l k) ∨ more l (min l.length 5) := by
  have h : ∀ k, k ≤ min l.length 5 → (∃ k, ends l k) ∨ more l k := by
    intro k
    induction k with
    | zero => intro _; right; intro j b hj; omega
    | succ k ih =>
      intro hk
      rcases ih (by omega) with h | h
      · exact .inl h
      · have hlt : k < l.length := by omega
        by_cases hb : l[k].toNat < 128
        · exact .inl ⟨k, by omega, h, l[k], by simp [hlt], hb⟩
        · right
          intro j b hj hjb
          by_cases e : j = k
          · subst e
            rw [List.getElem?_eq_getElem hlt] at hjb
            cases hjb; omega
          · exact h j b (by omega) hjb
  exact h _ (Nat.le_refl _)

/-- What Take answers: the number, how many bytes, the error. -/
noncomputable def takeL (l : List UInt8) : Nat × Nat × Nat :=
  open Classical in
  if h : ∃ k, ends l k then
    if l[Classical.choose h]? = some 0 ∧ 0 < Classical.choose h then (0, 0, 7)
    else if 1073741824 < val (l.take (Classical.choose h + 1)) then (0, 0, 2)
    else (val (l.take (Classical.choose h + 1)), Classical.choose h + 1, 0)
  else if l.length < 5 then (0, 0, 5) else (0, 0, 2)

theorem ends_unique {l : List UInt8} {j k : Nat} (hj : ends l j) (hk : ends l k) : j = k := by
  obtain ⟨_, mj, a, ha, hal⟩ := hj
  obtain ⟨_, mk, b, hb, hbl⟩ := hk
  rcases Nat.lt_trichotomy j k with h | h | h
  · have := mk j a h ha; omega
  · exact h
  · have := mj k b h hb; omega

theorem takeL_ends {l : List UInt8} {k : Nat} (h : ends l k) :
    takeL l = if l[k]? = some 0 ∧ 0 < k then (0, 0, 7) else if 1073741824 < val (l.take (k + 1)) then (0, 0, 2) else (val (l.take (k + 1)), k + 1, 0) := by
  have hex : ∃ k, ends l k := ⟨k, h⟩
  have he : Classical.choose hex = k := ends_unique (Classical.choose_spec hex) h
  unfold takeL
  rw [dif_pos hex, he]

theorem takeL_none {l : List UInt8} (h : more l (min l.length 5)) : takeL l = if l.length < 5 then (0, 0, 5) else (0, 0, 2) := by
  have hn : ¬ ∃ k, ends l k := by
    rintro ⟨k, h5, _, b, hb, hlt⟩
    have := (List.getElem?_eq_some_iff.1 hb).1
    have := h k b (by omega) hb
    omega
  unfold takeL
  rw [dif_neg hn]

theorem val_lt (l : List UInt8) : val l < 128 ^ l.length := by
  induction l with
  | nil => simp [val]
  | cons b l ih => rw [val, List.length_cons, Nat.pow_succ]; omega

theorem val_drop (l : List UInt8) (j : Nat) (b : UInt8) (h : l[j]? = some b) : val (l.drop j) = b.toNat % 128 + 128 * val (l.drop (j + 1)) := by
  obtain ⟨hlt, rfl⟩ := List.getElem?_eq_some_iff.1 h
  rw [List.drop_eq_getElem_cons hlt]; rfl

theorem val_append (a b : List UInt8) : val (a ++ b) = val a + 128 ^ a.length * val b := by
  induction a with
  | nil => simp [val]
  | cons x a ih =>
    rw [List.cons_append, val, ih, val, List.length_cons, Nat.pow_succ]
    rw [Nat.mul_add, ← Nat.mul_assoc, Nat.mul_comm 128 (128 ^ a.length)]
    omega

theorem val_take (l : List UInt8) (j : Nat) (b : UInt8) (h : l[j]? = some b) : val (l.take (j + 1)) = val (l.take j) + b.toNat % 128 * 128 ^ j := by
  obtain ⟨hlt, rfl⟩ := List.getElem?_eq_some_iff.1 h
  rw [List.take_succ_eq_append_getElem hlt, val_append, List.length_take, Nat.min_eq_left (by omega)]
  simp [val, Nat.mul_comm]

theorem more_succ {l : List UInt8} {k : Nat} {b : UInt8} (h : more l k) (hb : l[k]? = some b) (hlt : 128 ≤ b.toNat) : more l (k + 1) := by
  intro j c hj hc
  by_cases e : j = k
  · subst e; rw [hb] at hc; cases hc; exact hlt
  · exact h j c (by omega) hc

theorem more_cons {b : UInt8} {l : List UInt8} {k : Nat} (hb : 128 ≤ b.toNat) (h : more l k) : more (b :: l) (k + 1) := by
  intro j c hj hc
  cases j with
  | zero => rw [List.getElem?_cons_zero] at hc; cases hc; exact hb
  | succ j => rw [List.getElem?_cons_succ] at hc; exact h j c (by omega) hc

/-- What Put lays Take takes: the shape of a number's bytes. -/
theorem put_spec (n : Nat) : ∃ k, (put n).length = k + 1 ∧ more (put n) k ∧ (∃ b, (put n)[k]? = some b ∧ b.toNat < 128 ∧ (0 < k → b ≠ 0)) ∧ val (put n) = n := by
  induction n using Nat.strongRecOn with
  | _ n ih =>
    by_cases h : n < 128
    · rw [put_small h]
      refine ⟨0, rfl, fun j b hj => by omega, ⟨UInt8.ofNat n, rfl, ?_, fun h0 => by omega⟩, ?_⟩
      · rw [UInt8.toNat_ofNat']; omega
      · simp only [val, UInt8.toNat_ofNat']; omega
    · rw [put_great h]
      obtain ⟨k, hl, hm, ⟨b, hb, hlt, hne⟩, hv⟩ := ih (n / 128) (by omega)
      have hbyte : (UInt8.ofNat (n % 128 + 128)).toNat = n % 128 + 128 := by rw [UInt8.toNat_ofNat']; omega
      refine ⟨k + 1, by rw [List.length_cons, hl], more_cons (by omega) hm, ⟨b, by rw [List.getElem?_cons_succ]; exact hb, hlt, fun _ hb0 => ?_⟩, ?_⟩
      · subst hb0
        have hk : k = 0 := by
          by_cases hk : 0 < k
          · exact (hne hk rfl).elim
          · omega
        subst hk
        have : put (n / 128) = [0] := by
          match hp : put (n / 128), hl, hb with
          | [x], _, hb => rw [hp] at *; simp at hb; rw [hb]
        rw [this] at hv
        simp [val] at hv
        omega
      · rw [val, hv, hbyte]; omega

theorem more_append {l r : List UInt8} {k : Nat} (h : more l k) (hk : k ≤ l.length) : more (l ++ r) k := by
  intro j b hj hb
  rw [List.getElem?_append_left (by omega)] at hb
  exact h j b hj hb

/-- Take of a number's bytes, with anything behind. -/
theorem take_put (n : Nat) (r : List UInt8) (hn : n ≤ 1073741824) : takeL (put n ++ r) = (n, (put n).length, 0) := by
  obtain ⟨k, hl, hm, ⟨b, hb, hlt, hne⟩, hv⟩ := put_spec n
  have h5 := put_length5 hn
  have hb' : (put n ++ r)[k]? = some b := by rw [List.getElem?_append_left (by omega)]; exact hb
  have he : ends (put n ++ r) k := ⟨by omega, more_append hm (by omega), b, hb', hlt⟩
  have ht : (put n ++ r).take (k + 1) = put n := by rw [List.take_append_of_le_length (by omega), List.take_of_length_le (by omega)]
  rw [takeL_ends he, ht, hv, if_neg, if_neg (by omega), hl]
  rintro ⟨h1, h2⟩
  rw [hb'] at h1
  exact hne h2 (Option.some.inj h1)

theorem val_put (n : Nat) : val (put n) = n := (put_spec n).choose_spec.2.2.2

/-- The bytes of which a number is taken are those that are put for it. -/
theorem put_val : ∀ (k : Nat) (l : List UInt8), k < l.length → more l k → (∃ b, l[k]? = some b ∧ b.toNat < 128 ∧ (0 < k → b ≠ 0)) → put (val (l.take (k + 1))) = l.take (k + 1) := by
  intro k
  induction k with
  | zero =>
    rintro l hk _ ⟨b, hb, hlt, _⟩
    match l, hb with
    | x :: l, hb =>
      simp at hb
      subst hb
      have : val [x] = x.toNat := by simp [val]; omega
      show put (val [x]) = [x]
      rw [this, put_small hlt, UInt8.ofNat_toNat]
  | succ k ih =>
    rintro l hk hm ⟨b, hb, hlt, hne⟩
    match l, hk, hm, hb with
    | x :: l, hk, hm, hb =>
      rw [List.getElem?_cons_succ] at hb
      have hx : 128 ≤ x.toNat := hm 0 x (by omega) rfl
      have hx2 := x.toNat_lt
      have hl : k < l.length := by simpa using hk
      have hih := ih l hl (fun j c hj hc => hm (j + 1) c (by omega) (by rw [List.getElem?_cons_succ]; exact hc)) ⟨b, hb, hlt, fun _ => hne (by omega)⟩
      show put (val (x :: l.take (k + 1))) = x :: l.take (k + 1)
      rw [val]
      generalize hv : val (l.take (k + 1)) = v at hih
      have hv0 : v ≠ 0 := by
        intro h0
        subst h0
        rw [put_small (by omega)] at hih
        have h1 := congrArg List.length hih
        rw [List.length_take, List.length_singleton] at h1
        have hk0 : k = 0 := by omega
        subst hk0
        have h2 := congrArg (·[0]?) hih
        simp only [List.getElem?_take, List.getElem?_cons_zero] at h2
        rw [if_pos (by omega), hb] at h2
        exact hne (by omega) (Option.some.inj h2).symm
      rw [put_great (by omega), show (x.toNat % 128 + 128 * v) / 128 = v from by omega, hih]
      have : (x.toNat % 128 + 128 * v) % 128 + 128 = x.toNat := by omega
      rw [this, UInt8.ofNat_toNat]

/-- What Take answers, told from its answer. -/
theorem take_one (l : List UInt8) : (takeL l).2.2 ≠ 0 ∧ (takeL l).1 = 0 ∧ (takeL l).2.1 = 0 ∨
    (takeL l).2.2 = 0 ∧ 1 ≤ (takeL l).2.1 ∧ (takeL l).2.1 ≤ l.length ∧ (takeL l).1 ≤ 1073741824 ∧ put (takeL l).1 = l.take (takeL l).2.1 := by
  rcases ends_or l with ⟨k, h⟩ | h
  · rw [takeL_ends h]
    by_cases h0 : l[k]? = some 0 ∧ 0 < k
    · rw [if_pos h0]; left; simp
    · rw [if_neg h0]
      by_cases hv : 1073741824 < val (l.take (k + 1))
      · rw [if_pos hv]; left; simp
      · rw [if_neg hv]
        right
        obtain ⟨_, hm, b, hb, hlt⟩ := h
        have hkl := (List.getElem?_eq_some_iff.1 hb).1
        refine ⟨rfl, by simp, hkl, by simpa using hv, ?_⟩
        exact put_val k l hkl hm ⟨b, hb, hlt, fun hk hb0 => h0 ⟨by rw [hb, hb0], hk⟩⟩
  · rw [takeL_none h]
    left
    split <;> simp

theorem put_pos (n : Nat) : 1 ≤ (put n).length := by
  obtain ⟨k, hl, _⟩ := put_spec n
  omega

theorem put_grows : ∀ b a : Nat, a ≤ b → (put a).length ≤ (put b).length := by
  intro b
  induction b using Nat.strongRecOn with
  | _ b ih =>
    intro a hab
    by_cases ha : a < 128
    · rw [put_small ha]; exact put_pos b
    · rw [put_great (n := a) ha, put_great (n := b) (by omega), List.length_cons, List.length_cons]
      have := ih (b / 128) (by omega) (a / 128) (by omega)
      omega

end Go.Proofs.Ythkccaifabpleaa.Count
