/- What Take answers. -/
import Derived.Test.YthkccaifabpleaaCountEnd
import Derived.Test.YthkccaifabpleaaCountPut
import Derived.Handy
namespace Go.Proofs.Ythkccaifabpleaa
open Go.RowKit

theorem or7 (x b : Nat) (hx : x < 268435456) : bits .or .i64 ((x : Int) * 128) ((b : Int) % 128) = (x : Int) * 128 + (b : Int) % 128 :=
  bits_join .i64 62 (by decide) (fun n h0 h1 => IntWalk.i64_in n (by omega)) 7 _ _ (by omega) (by omega) (by omega) (by omega) (by omega) (by omega)

set_option maxRecDepth 100000 in
theorem take_none (s : ByteArray) (w : World) (hs : s.size ≤ maxLen) (h : Count.more s.data.toList (min s.data.toList.length 5)) :
    Calls Try.prog 34 #[.string s] w fun e w' => e = .returned (.tuple #[.int .i64 0, .int .i64 0, .int .i64 (if s.size < 5 then 5 else 2)]) ∧ Ext w w' := by
  have hs' := hs
  unfold maxLen at hs'
  by_cases h5 : s.size < 5
  · rw [if_pos h5]
    go_enter Try.func34, Try.ntmps34
    go_wp2_with fail
    refine (end_none s w hs h).mono ?_
    rintro e w' ⟨rfl, rfl⟩
    go_wp2
    go_ret3
    exact ⟨rfl, Ext.refl _⟩
  · rw [if_neg h5]
    go_enter Try.func34, Try.ntmps34
    go_wp2_with fail
    refine (end_none s w hs h).mono ?_
    rintro e w' ⟨rfl, rfl⟩
    go_wp2
    go_ret3
    exact ⟨rfl, Ext.refl _⟩

set_option maxRecDepth 100000 in
theorem take_form (s : ByteArray) (k : Nat) (w : World) (hs : s.size ≤ maxLen) (h : Count.ends s.data.toList k) (h0 : s.data.toList[k]? = some 0) (hk : 0 < k) :
    Calls Try.prog 34 #[.string s] w fun e w' => e = .returned (.tuple #[.int .i64 0, .int .i64 0, .int .i64 7]) ∧ Ext w w' := by
  have hs' := hs
  unfold maxLen at hs'
  have hks : k < s.size := (List.getElem?_eq_some_iff.1 h0).1
  rw [byte_at s k hks] at h0
  have hz : ((s[k].toNat : Int) == 0) = true := by rw [Option.some.inj h0]; rfl
  clear h0
  go_enter Try.func34, Try.ntmps34
  go_wp2_with fail
  refine (end_at s k w hs hks h).mono ?_
  rintro e w' ⟨rfl, rfl⟩
  go_wp2
  go_ret3
  exact ⟨rfl, Ext.refl _⟩

/-- A result of Take, as it lies in the machine. -/
def took (x : Nat × Nat × Nat) : Value := .tuple #[.int .i64 (x.1 : Int), .int .i64 (x.2.1 : Int), .int .i64 (x.2.2 : Int)]
def coreRes (l : List UInt8) (k : Nat) : Nat × Nat × Nat := if 1073741824 < Count.val l then (0, 0, 2) else (Count.val l, k + 1, 0)

set_option maxRecDepth 100000 in
set_option maxHeartbeats 1000000 in
theorem take_core (s : ByteArray) (k : Nat) (l : List UInt8) (w : World) (hs : s.size ≤ maxLen) (h : Count.ends s.data.toList k) (hks : k < s.size)
    (hcase : (((s[k].toNat : Int) == 0) = false) ∨ ((((s[k].toNat : Int) == 0) = true) ∧ ¬ (0 : Int) < (k : Int)))
    (HL : Hid (l.length = k + 1)) (HBY : Hid (∀ m (hm : m < k + 1), l[m]? = some (s[m]'(by omega)))) :
    Calls Try.prog 34 #[.string s] w fun e w' =>
      e = .returned (took (coreRes l k)) ∧ Ext w w' := by
  have hs' := hs
  unfold maxLen at hs'
  go_enter Try.func34, Try.ntmps34
  go_wp2_with fail
  refine (end_at s k w hs hks h).mono ?_
  rintro e w' ⟨rfl, rfl⟩
  have h5 := h.1
  rcases hcase with hz' | ⟨hz', hk0⟩
  all_goals
    go_wp2_with fail
    clear hz'
    go_loop [6, 7] (fun n i => ∃ j : Nat, j ≤ k + 1 ∧ i = .int .i64 ((j : Int) - 1) ∧ n = .int .i64 (Count.val (l.drop j) : Nat)) (fun _ i => (intOf i + 1).toNat)
    case atStart => exact ⟨k + 1, by omega, by go_num, by rw [List.drop_eq_nil_of_le (by rw [HL.out]; exact Nat.le_refl _)]; rfl⟩
    case round =>
      obtain ⟨j, hj, rfl, rfl⟩ := hrel
      by_cases hj0 : 1 ≤ j
      · obtain ⟨m, rfl⟩ : ∃ m, j = m + 1 := ⟨j - 1, by omega⟩
        have hms : m < s.size := by omega
        have hv := Count.val_drop l m _ (HBY.out m (by omega))
        have hx : Count.val (l.drop (m + 1)) < 268435456 := by
          have h1 := Count.val_lt (l.drop (m + 1))
          rw [List.length_drop, HL.out] at h1
          have h2 : 128 ^ (k + 1 - (m + 1)) ≤ 128 ^ 4 := Nat.pow_le_pow_right (by omega) (by omega)
          have h3 : (128 : Nat) ^ 4 = 268435456 := by decide
          omega
        have HV := Lib.hid hv
        clear hv
        generalize Count.val (l.drop (m + 1)) = x at hx HV ⊢
        have e0 := or7 x s[m].toNat hx
        rw [show ((m + 1 : Nat) : Int) - 1 = (m : Int) from by omega]
        go_wp2
        go_round
        case rel => exact ⟨m, by omega, by go_num, by rw [HV.out]; go_num⟩
        case measure => simp [intOf]
      · obtain rfl : j = 0 := by omega
        rw [List.drop_zero]
        generalize hvv : Count.val l = v
        have HVV := Lib.hid hvv
        clear hvv
        by_cases hv : 1073741824 < v
        · go_wp2_with fail
          refine (right_no _ _ (by omega)).mono ?_
          rintro e w' ⟨rfl, rfl⟩
          go_wp2
          go_ret3
          exact ⟨by unfold coreRes; rw [HVV.out, if_pos hv]; rfl, Ext.refl _⟩
        · go_wp2_with fail
          refine (right_yes _ _ ⟨by omega, by omega⟩).mono ?_
          rintro e w' ⟨rfl, rfl⟩
          go_wp2
          go_ret3
          exact ⟨by unfold coreRes; rw [HVV.out, if_neg hv]; rfl, Ext.refl _⟩

theorem take_ends (s : ByteArray) (k : Nat) (w : World) (hs : s.size ≤ maxLen) (h : Count.ends s.data.toList k) (h0 : ¬ (s.data.toList[k]? = some 0 ∧ 0 < k)) :
    Calls Try.prog 34 #[.string s] w fun e w' =>
      e = .returned (took (coreRes (s.data.toList.take (k + 1)) k)) ∧ Ext w w' := by
  have hks : k < s.size := by
    obtain ⟨_, _, b, hb, _⟩ := h
    exact (List.getElem?_eq_some_iff.1 hb).1
  rw [byte_at s k hks] at h0
  refine take_core s k _ w hs h hks ?_ ?_ ?_
  · by_cases hz : s[k] = 0
    · right
      refine ⟨by rw [hz]; rfl, fun hk => h0 ⟨by rw [hz], by omega⟩⟩
    · left
      rw [beq_eq_false_iff_ne]; intro hh; apply hz; apply UInt8.toNat_inj.1; simpa using hh
  · show _ = _
    rw [List.length_take]; have : s.data.toList.length = s.size := rfl; omega
  · intro m hm
    rw [List.getElem?_take, if_pos hm]; exact byte_at s m (by omega)

theorem take_any (s : ByteArray) (w : World) (hs : s.size ≤ maxLen) :
    Calls Try.prog 34 #[.string s] w fun e w' => e = .returned (took (Count.takeL s.data.toList)) ∧ Ext w w' := by
  rcases Count.ends_or s.data.toList with ⟨k, h⟩ | h
  · rw [Count.takeL_ends h]
    by_cases h0 : s.data.toList[k]? = some 0 ∧ 0 < k
    · rw [if_pos h0]
      exact take_form s k w hs h h0.1 h0.2
    · rw [if_neg h0]
      exact take_ends s k w hs h h0
  · rw [Count.takeL_none h]
    refine (take_none s w hs h).mono fun e w' ⟨he, hg⟩ => ⟨?_, hg⟩
    rw [he]
    have : s.data.toList.length = s.size := rfl
    rw [this]
    split <;> rfl

end Go.Proofs.Ythkccaifabpleaa
