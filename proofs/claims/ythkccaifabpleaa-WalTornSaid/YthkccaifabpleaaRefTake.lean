/- What the document's Take answers: the same. -/
import Derived.Test.YthkccaifabpleaaCountTake
namespace Go.Proofs.Ythkccaifabpleaa
open Go.RowKit

/-- What the first j bytes come to, one more byte, and its unit. -/
theorem step_take (l : List UInt8) (j : Nat) (b : UInt8) (hj : j ≤ 4) (h : l[j]? = some b) :
    ∃ p u v : Nat, u = 128 ^ j ∧ v = Count.val (l.take j) ∧ p = b.toNat % 128 * u ∧ u ≤ 268435456 ∧ v < 268435456 ∧ p < 34359738368 ∧
      ((b.toNat : Int) % 128) * (u : Int) = (p : Int) ∧ v + p = Count.val (l.take (j + 1)) ∧ u * 128 = 128 ^ (j + 1) := by
  have h1 : 128 ^ j ≤ 128 ^ 4 := Nat.pow_le_pow_right (by omega) hj
  have h4 : (128 : Nat) ^ 4 = 268435456 := by decide
  have hv := Count.val_lt (l.take j)
  have hle : 128 ^ (l.take j).length ≤ 128 ^ 4 := Nat.pow_le_pow_right (by omega) (by rw [List.length_take]; omega)
  have hp : b.toNat % 128 * 128 ^ j ≤ 127 * 128 ^ j := Nat.mul_le_mul_right _ (by omega)
  refine ⟨b.toNat % 128 * 128 ^ j, 128 ^ j, Count.val (l.take j), rfl, rfl, rfl, by omega, by omega, by omega, ?_, (Count.val_take l j b h).symm, (Nat.pow_succ ..).symm⟩
  rw [Int.natCast_mul, Int.natCast_emod]; rfl

def RefRel (l : List UInt8) (j : Nat) (n u i : Value) : Prop := i = .int .i64 (j : Int) ∧ n = .int .i64 (Count.val (l.take j) : Nat) ∧ u = .int .i64 ((128 ^ j : Nat) : Int)

set_option maxRecDepth 100000 in
set_option maxHeartbeats 1000000 in
theorem refTake_none (s : ByteArray) (w : World) (hs : s.size ≤ maxLen) (h : Count.more s.data.toList (min s.data.toList.length 5)) :
    Calls Try.prog 25 #[.string s] w fun e w' => e = .returned (.tuple #[.int .i64 0, .int .i64 0, .int .i64 (if s.size < 5 then 5 else 2)]) ∧ Ext w w' := by
  unfold maxLen at hs
  have hl : s.data.toList.length = s.size := rfl
  rw [hl] at h
  have HM : Hid (Count.more s.data.toList (min s.size 5)) := h
  clear h hl
  go_enter Try.func25, Try.ntmps25
  go_wp2
  go_loop [5, 6, 7] (fun n u i => ∃ j : Nat, j ≤ s.size ∧ j ≤ 5 ∧ RefRel s.data.toList j n u i) (fun _ _ i => 5 - (intOf i).toNat)
  case atStart => exact ⟨0, by omega, by omega, rfl, rfl, rfl⟩
  case round =>
    obtain ⟨j, hj, hj5, rfl, rfl, rfl⟩ := hrel
    by_cases h5 : j < 5
    · by_cases hlt : j < s.size
      · obtain ⟨p, u, v, hu, hv, hp, hu1, hv1, hp1, hmul, hval, hunit⟩ := step_take s.data.toList j s[j] (by omega) (byte_at s j hlt)
        have hbj := HM.out j s[j] (by omega) (byte_at s j hlt)
        rw [← hu, ← hv]
        have hxl := s[j].toNat_lt
        have HV := Lib.hid hval
        have HU := Lib.hid hunit
        clear hu hv hp hval hunit
        obtain ⟨x, hx⟩ : ∃ x, s[j].toNat = x := ⟨_, rfl⟩
        rw [hx] at hmul hxl hbj
        have hxl' : x < 256 := hxl
        clear hxl
        go_wp2
        go_round
        case rel => exact ⟨j + 1, by omega, by omega, by go_num, by rw [← HV.out]; go_num, by rw [← HU.out]; go_num⟩
        case measure => simp [intOf]; omega
      · obtain rfl : j = s.size := by omega
        have hne : ((s.size : Int) == (s.size : Int)) = true := by simp
        have e5 : (if s.size < 5 then (5 : Int) else 2) = 5 := by rw [if_pos h5]
        go_wp2
        go_ret3
        exact ⟨by first | rfl | (rw [e5]; rfl), Ext.refl _⟩
    · obtain rfl : j = 5 := by omega
      have e5 : (if s.size < 5 then (5 : Int) else 2) = 2 := by rw [if_neg (by omega)]
      go_wp2
      go_ret3
      exact ⟨by first | rfl | (rw [e5]; rfl), Ext.refl _⟩
set_option maxRecDepth 100000 in
set_option maxHeartbeats 2000000 in
theorem refTake_ends (s : ByteArray) (k : Nat) (w : World) (_hs : s.size ≤ maxLen) (h : Count.ends s.data.toList k) (hks : k < s.size) (x : Nat) (hx0 : s[k].toNat = x) :
    Calls Try.prog 25 #[.string s] w fun e w' =>
      e = .returned (took (if x = 0 ∧ 0 < k then (0, 0, 7) else coreRes (s.data.toList.take (k + 1)) k)) ∧ Ext w w' := by
  unfold maxLen at _hs
  have hk5 := h.1
  have hx128 : x < 128 := by
    obtain ⟨_, _, b, hb, hlt⟩ := h
    rw [byte_at s k hks] at hb
    cases hb
    omega
  have HM : Hid (Count.more s.data.toList k) := h.2.1
  clear h
  have HX0 := Lib.hid hx0
  clear hx0
  generalize hres : took (if x = 0 ∧ 0 < k then (0, 0, 7) else coreRes (s.data.toList.take (k + 1)) k) = res
  have HR := Lib.hid hres
  clear hres
  go_enter Try.func25, Try.ntmps25
  go_wp2
  go_loop [5, 6, 7] (fun n u i => ∃ j : Nat, j ≤ k ∧ RefRel s.data.toList j n u i) (fun _ _ i => 5 - (intOf i).toNat)
  case atStart => exact ⟨0, by omega, rfl, rfl, rfl⟩
  case round =>
    obtain ⟨j, hj, rfl, rfl, rfl⟩ := hrel
    have hlt : j < s.size := by omega
    obtain ⟨p, u, v, hu, hv, hp, hu1, hv1, hp1, hmul, hval, hunit⟩ := step_take s.data.toList j s[j] (by omega) (byte_at s j hlt)
    rw [← hu, ← hv]
    have hxl : s[j].toNat < 256 := s[j].toNat_lt
    have HV := Lib.hid hval
    have HU := Lib.hid hunit
    clear hu hv hp hval hunit
    by_cases hjk : j < k
    · have hbj := HM.out j s[j] hjk (byte_at s j hlt)
      obtain ⟨y, hy⟩ : ∃ y, s[j].toNat = y := ⟨_, rfl⟩
      rw [hy] at hmul hxl hbj
      go_wp2
      go_round
      case rel => exact ⟨j + 1, by omega, by go_num, by rw [← HV.out]; go_num, by rw [← HU.out]; go_num⟩
      case measure => simp [intOf]; omega
    · obtain rfl : j = k := by omega
      have hy := HX0.out
      rw [hy] at hmul hxl
      by_cases h0 : x = 0 ∧ 0 < j
      · obtain ⟨h1, h2⟩ := h0
        have hz : ((x : Int) == 0) = true := by rw [beq_iff_eq]; omega
        go_wp2
        go_ret3
        exact ⟨by rw [← HR.out, if_pos ⟨h1, h2⟩]; rfl, Ext.refl _⟩
      · have hcase : (((x : Int) == 0) = false) ∨ ((((x : Int) == 0) = true) ∧ ¬ (0 : Int) < (j : Int)) := by
          by_cases hz : x = 0
          · right; exact ⟨by rw [beq_iff_eq]; omega, fun h => h0 ⟨hz, by omega⟩⟩
          · left; rw [beq_eq_false_iff_ne]; omega
        have H0 := Lib.hid h0
        clear h0
        by_cases hg : 1073741824 < v + p
        · rcases hcase with hz | ⟨hz, hj0⟩
          all_goals
            go_wp2
            go_ret3
            exact ⟨by rw [← HR.out, if_neg H0.out]; unfold coreRes; rw [← HV.out, if_pos hg]; rfl, Ext.refl _⟩
        · rcases hcase with hz | ⟨hz, hj0⟩
          all_goals
            go_wp2
            go_ret3
            exact ⟨by rw [← HR.out, if_neg H0.out]; unfold coreRes; rw [← HV.out, if_neg hg]; rfl, Ext.refl _⟩

theorem refTake_any (s : ByteArray) (w : World) (hs : s.size ≤ maxLen) :
    Calls Try.prog 25 #[.string s] w fun e w' => e = .returned (took (Count.takeL s.data.toList)) ∧ Ext w w' := by
  rcases Count.ends_or s.data.toList with ⟨k, h⟩ | h
  · rw [Count.takeL_ends h]
    have hks : k < s.size := by
      obtain ⟨_, _, b, hb, _⟩ := h
      exact (List.getElem?_eq_some_iff.1 hb).1
    have := refTake_ends s k w hs h hks _ rfl
    rw [byte_at s k hks]
    have e : (s[k].toNat = 0 ∧ 0 < k) ↔ (some s[k] = some (0 : UInt8) ∧ 0 < k) := by
      constructor
      · rintro ⟨h1, h2⟩; exact ⟨by rw [UInt8.toNat_inj.1 (show s[k].toNat = (0 : UInt8).toNat from h1)], h2⟩
      · rintro ⟨h1, h2⟩; exact ⟨by rw [Option.some.inj h1]; rfl, h2⟩
    refine this.mono fun e1 w' ⟨he, hg⟩ => ⟨?_, hg⟩
    rw [he]
    by_cases hz : s[k].toNat = 0 ∧ 0 < k
    · rw [if_pos hz, if_pos (e.1 hz)]
    · rw [if_neg hz, if_neg (fun h => hz (e.2 h))]; rfl
  · rw [Count.takeL_none h]
    refine (refTake_none s w hs h).mono fun e w' ⟨he, hg⟩ => ⟨?_, hg⟩
    rw [he]
    have : s.data.toList.length = s.size := rfl
    rw [this]
    split <;> rfl

end Go.Proofs.Ythkccaifabpleaa
