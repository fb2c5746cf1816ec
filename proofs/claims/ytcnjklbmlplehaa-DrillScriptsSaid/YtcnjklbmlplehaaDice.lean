/- What draws come to. -/
import Derived.Test.YtcnjklbmlplehaaOwnRows
import Derived.Test.YtcnjklbmlplehaaRange
namespace Go.Proofs.Ytcnjklbmlplehaa
open Go.RowKit

namespace DR
/-- The draw behind a draw. -/
def nxt (s : Int) : Int := wrap64 (IntKind.u64.wrap (IntKind.u64.wrap (IntKind.u64.wrap s * 6364136223846793005) + 1442695040888963407))
/-- The great part of a draw. -/
def top (s : Int) : Int := (s % 18446744073709551616) / 8589934592
/-- A number below one. -/
def bel (s n : Int) : Int := top (nxt s) % n
theorem top_bounds (s : Int) : 0 ≤ top s ∧ top s < 2147483648 := by unfold top; omega
theorem bel_bounds (s n : Int) (h : 1 ≤ n) : 0 ≤ bel s n ∧ bel s n < n := ⟨Int.emod_nonneg _ (by omega), Int.emod_lt_of_pos _ (by omega)⟩
end DR

set_option maxRecDepth 100000 in
theorem dice_next (s : Int) (w : World) : Calls Try.prog 44 #[.int .i64 s] w fun e w' => e = .returned (.int .i64 (DR.nxt s)) ∧ w = w' := by
  go_enter Try.func44, Try.ntmps44
  go_wp2
  go_ret
  exact ⟨rfl, rfl⟩
theorem below_num (s n : Int) (h1 : 0 ≤ s) (h2 : s < 2147483648) (hn : 1 ≤ n) (hm : n ≤ 2097152) : wrap64 (s % n) = s % n ∧ IntKind.u64.wrap s = s ∧ IntKind.u64.wrap n = n := by
  have h3 : 0 ≤ s % n := Int.emod_nonneg _ (by omega)
  have h4 : s % n < n := Int.emod_lt_of_pos _ (by omega)
  refine ⟨?_, IntWalk.u64_in s (by omega), IntWalk.u64_in n (by omega)⟩
  generalize s % n = z at *
  unfold wrap64
  omega
set_option maxRecDepth 100000 in
theorem dice_below (s n : Int) (w : World) (h1 : 0 ≤ s) (h2 : s < 2147483648) (hn : 1 ≤ n) (hm : n ≤ 2097152) : Calls Try.prog 45 #[.int .i64 s, .int .i64 n] w fun e w' => e = .returned (.int .i64 (s % n)) ∧ w = w' := by
  obtain ⟨k1, k2, k3⟩ := below_num s n h1 h2 hn hm
  have f1 : decide (n < 1) = false := decide_eq_false (by omega)
  have f2 : ¬ n = 0 := by omega
  have K1 := Lib.hid k1
  clear k1
  go_enter Try.func45, Try.ntmps45
  go_wp2
  go_ret
  exact ⟨by show Ending.returned (.int .i64 (wrap64 (s % n))) = _; rw [K1.out], rfl⟩
set_option maxRecDepth 100000 in
theorem drill_weight (c : Int) (w : World) (h1 : 97 ≤ c) (h2 : c ≤ 122) : Calls Try.prog 43 #[.int .i32 c] w fun e w' => e = .returned (.int .i64 (c - 96)) ∧ w = w' := by
  go_enter Try.func43, Try.ntmps43
  go_wp2
  go_ret
  exact ⟨by rw [show c - 96 = c - 97 + 1 by omega]; rfl, rfl⟩

theorem top_eq (s : Int) : wrap64 (IntKind.u64.wrap s / 8589934592) = DR.top s := by
  rw [IntKind.wrap_u64]
  unfold wrap64 DR.top
  omega

/-- A drawer: its draw and its graph. -/
def Drawer (W : World) (D : Nat) (s : Int) (g : Value) : Prop := Two W D 50 (.int .i64 s) g

set_option maxRecDepth 100000 in
theorem draw_below (D : Nat) (s n : Int) (g : Value) (w : World) (h : Drawer w D s g) (hn : 1 ≤ n) (hm : n ≤ 2097152) :
    Calls Try.prog 34 #[.pointer (some ⟨D, 0, none⟩), .int .i64 n] w fun e w' => e = .returned (.int .i64 (DR.bel s n)) ∧ w' = w.setCell ⟨D, 0, none⟩ (.int .i64 (DR.nxt s)) := by
  have c0 := Two.c0 h
  have c1 := Two.f0 h
  have c2 := Two.c0 (Two.set0 h (.int .i64 (DR.nxt s)))
  have HN := Lib.hid (dice_next s w)
  have ht := DR.top_bounds (DR.nxt s)
  have HB := Lib.hid (fun W => dice_below (DR.top (DR.nxt s)) n W ht.1 ht.2 hn hm)
  clear h ht
  unfold DR.bel
  generalize DR.nxt s = s2 at *
  go_enter Try.func34, Try.ntmps34
  go_wp2_with fail
  refine HN.out.mono ?_
  rintro e w1 ⟨rfl, rfl⟩
  go_wp2_with fail
  rw [top_eq s2]
  refine (HB.out _).mono ?_
  rintro e w2 ⟨rfl, rfl⟩
  go_wp2
  go_ret
  exact ⟨rfl, rfl⟩

theorem grown_more {w W W' : World} {k : Nat} (h : w.grownBy W (some k)) (h2 : W.grownBy W' (some k)) : w.grownBy W' (some k) := h.trans h2
theorem grown_new (w : World) (o : Obj) (k : Nat) : w.grownBy (w.alloc o) (some k) := ⟨rfl, rfl, rfl, by rw [World.size_alloc]; omega, fun j hj _ => heap_alloc_old w o hj⟩
theorem grown_any {w W : World} {k : Nat} (h : w.grownBy W none) : w.grownBy W (some k) := ⟨h.os, h.tape, h.output, h.size, fun j hj _ => h.block j hj (by intro e; cases e)⟩
theorem grown_refl (w : World) (k : Nat) : w.grownBy w (some k) := ⟨rfl, rfl, rfl, Nat.le_refl _, fun _ _ _ => rfl⟩

namespace DR
/-- What a letter counts. -/
def wt (t : ByteArray) (i : Nat) : Int := if h : i < t.size then ((t[i]'h).toNat : Int) - 96 else 0
def sumTo (t : ByteArray) : Nat → Int
  | 0 => 0
  | k + 1 => sumTo t k + wt t k
def pick (t : ByteArray) : Nat → Nat → Int → Int
  | 0, _, _ => 0
  | f + 1, i, k => if k < wt t i then (i : Int) else pick t f (i + 1) (k - wt t i)
def kindOf (t : ByteArray) (s : Int) : Int := pick t t.size 0 (bel s (sumTo t t.size))
/-- Small letters alone. -/
structure Low (t : ByteArray) : Prop where
  some : 1 ≤ t.size
  few : t.size ≤ 13
  low : ∀ i (h : i < t.size), 97 ≤ (t[i]'h).toNat ∧ (t[i]'h).toNat ≤ 122
theorem wt_eq {t : ByteArray} {i : Nat} (h : i < t.size) : wt t i = ((t[i]'h).toNat : Int) - 96 := dif_pos h
theorem wt_bounds {t : ByteArray} (ht : Low t) {i : Nat} (h : i < t.size) : 1 ≤ wt t i ∧ wt t i ≤ 26 := by
  have := ht.low i h
  rw [wt_eq h]
  omega
theorem sum_bounds {t : ByteArray} (ht : Low t) {k : Nat} (h : k ≤ t.size) : k ≤ sumTo t k ∧ sumTo t k ≤ 26 * k := by
  induction k with
  | zero => exact ⟨Int.le_refl _, Int.le_refl _⟩
  | succ k ih =>
    have h1 := ih (by omega)
    have h2 := wt_bounds ht (i := k) (by omega)
    have h3 : sumTo t (k + 1) = sumTo t k + wt t k := rfl
    omega
theorem pick_bounds (t : ByteArray) (f i : Nat) (k : Int) : 0 ≤ pick t f i k ∧ (pick t f i k = 0 ∨ pick t f i k < i + f) := by
  induction f generalizing i k with
  | zero => exact ⟨Int.le_refl _, .inl rfl⟩
  | succ f ih =>
    show 0 ≤ (if k < wt t i then (i : Int) else pick t f (i + 1) (k - wt t i)) ∧ _
    have h3 : pick t (f + 1) i k = if k < wt t i then (i : Int) else pick t f (i + 1) (k - wt t i) := rfl
    rw [h3]
    split
    · exact ⟨by omega, .inr (by omega)⟩
    · have := ih (i + 1) (k - wt t i)
      refine ⟨this.1, ?_⟩
      rcases this.2 with h | h
      · exact .inl h
      · exact .inr (by omega)
theorem kind_bounds {t : ByteArray} (ht : Low t) (s : Int) : 0 ≤ kindOf t s ∧ kindOf t s < 13 := by
  have h := pick_bounds t t.size 0 (bel s (sumTo t t.size))
  have hf := ht.few
  unfold kindOf
  refine ⟨h.1, ?_⟩
  rcases h.2 with h | h <;> omega
end DR
end Go.Proofs.Ytcnjklbmlplehaa
