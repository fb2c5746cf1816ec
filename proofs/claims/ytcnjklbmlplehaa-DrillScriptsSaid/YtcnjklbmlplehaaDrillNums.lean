/- The numbers of an operation of any kind. -/
import Derived.Test.YtcnjklbmlplehaaDrillNum
namespace Go.Proofs.Ytcnjklbmlplehaa
open Go.RowKit

theorem ne_false {k c : Int} (h : k ≠ c) : (k == c) = false := by rw [beq_eq_false_iff_ne]; exact h

theorem draw_numbers (D : Nat) (s : Int) (g : Value) (x : OpV) (w : World) (h : Drawer w D s g) :
    Calls Try.prog 38 #[.pointer (some ⟨D, 0, none⟩), x.v] w fun e w' => e = .returned (DR.numb s x).1.v ∧ Drawer w' D (DR.numb s x).2 g ∧ w.grownBy w' (some D) := by
  obtain ⟨k, p, t, n, a, m, pa, da⟩ := x
  unfold DR.numb
  simp only
  by_cases h2 : k = 2
  · subst h2; exact draw_numbers_2 D s g p t n a m pa da w h
  rw [if_neg h2]
  by_cases h3 : k = 3
  · subst h3; exact draw_numbers_3 D s g p t n a m pa da w h
  rw [if_neg h3]
  by_cases h8 : k = 8
  · subst h8; exact draw_numbers_8 D s g p t n a m pa da w h
  rw [if_neg h8]
  by_cases h9 : k = 9
  · subst h9; exact draw_numbers_9 D s g p t n a m pa da w h
  rw [if_neg h9]
  by_cases h4 : k = 4
  · subst h4; exact draw_numbers_4 D s g p t n a m pa da w h
  by_cases h5 : k = 5
  · subst h5; exact draw_numbers_5 D s g p t n a m pa da w h
  by_cases h6 : k = 6
  · subst h6; exact draw_numbers_6 D s g p t n a m pa da w h
  rw [if_neg (by omega)]
  by_cases h7 : k = 7
  · subst h7; exact draw_numbers_7 D s g p t n a m pa da w h
  rw [if_neg h7]
  exact draw_numbers_plain D s g k p t n a m pa da w h (ne_false h2) (ne_false h3) (ne_false h8) (ne_false h9) (ne_false h4) (ne_false h5) (ne_false h6) (ne_false h7)

theorem draw_numbers' (D : Nat) (s : Int) (g : Value) (k p t n a m : Int) (pa da : ByteArray) (w : World) (h : Drawer w D s g) {y0 y1 y2 y3 y4 y5 s9 : Int} {y6 y7 : ByteArray} (hz : DR.numb s ⟨k, p, t, n, a, m, pa, da⟩ = (⟨y0, y1, y2, y3, y4, y5, y6, y7⟩, s9)) :
    Calls Try.prog 38 #[.pointer (some ⟨D, 0, none⟩), .agg #[.int .i64 k, .int .i64 p, .int .i64 t, .int .i64 n, .int .i64 a, .int .i64 m, .string pa, .string da]] w
      fun e w' => e = .returned (.agg #[.int .i64 y0, .int .i64 y1, .int .i64 y2, .int .i64 y3, .int .i64 y4, .int .i64 y5, .string y6, .string y7]) ∧ Drawer w' D s9 g ∧ w.grownBy w' (some D) := by
  have := draw_numbers D s g ⟨k, p, t, n, a, m, pa, da⟩ w h
  rw [hz] at this
  exact this

namespace DR
/-- An operation that is drawn, and the draw behind it. -/
def opOf (L : Nat → List Nat) (n : Nat) (t : ByteArray) (s : Int) : OpV × Int :=
  if kindOf t s = 0 then (⟨kindOf t s, bel (nxt s) n, 0, 0, 0, 0, pathOf (nxt (nxt s)), letter (pathEnd (nxt (nxt s))) 26⟩, nxt (pathEnd (nxt (nxt s))))
  else if kindOf t s = 1 then (⟨kindOf t s, bel (nxt s) n, 0, 0, 0, 0, pathOf (nxt (nxt s)), ⟨#[]⟩⟩, pathEnd (nxt (nxt s)))
  else if 4 ≤ kindOf t s ∧ kindOf t s ≤ 7 then
    if L (bel (nxt s) n).toNat = [] then (⟨2, bel (nxt s) n, 0, 1, 0, 0, ⟨#[]⟩, ⟨#[]⟩⟩, nxt (nxt s))
    else numb (nxt (nxt (nxt s))) ⟨kindOf t s, bel (nxt s) n, toOf (L (bel (nxt s) n).toNat) (nxt (nxt s)), 0, 0, 0, ⟨#[]⟩, ⟨#[]⟩⟩
  else numb (nxt (nxt s)) ⟨kindOf t s, bel (nxt s) n, 0, 0, 0, 0, ⟨#[]⟩, ⟨#[]⟩⟩
/-- The same, of what is drawn first. -/
def opOf' (L : Nat → List Nat) (k p s2 : Int) : OpV × Int :=
  if k = 0 then (⟨k, p, 0, 0, 0, 0, pathOf s2, letter (pathEnd s2) 26⟩, nxt (pathEnd s2))
  else if k = 1 then (⟨k, p, 0, 0, 0, 0, pathOf s2, ⟨#[]⟩⟩, pathEnd s2)
  else if 4 ≤ k ∧ k ≤ 7 then
    if L p.toNat = [] then (⟨2, p, 0, 1, 0, 0, ⟨#[]⟩, ⟨#[]⟩⟩, s2)
    else numb (nxt s2) ⟨k, p, toOf (L p.toNat) s2, 0, 0, 0, ⟨#[]⟩, ⟨#[]⟩⟩
  else numb s2 ⟨k, p, 0, 0, 0, 0, ⟨#[]⟩, ⟨#[]⟩⟩
theorem opOf_eq (L : Nat → List Nat) (n : Nat) (t : ByteArray) (s : Int) : opOf L n t s = opOf' L (kindOf t s) (bel (nxt s) n) (nxt (nxt s)) := rfl
theorem numb_plain (s : Int) (x : OpV) (h : x.kind = 0 ∨ x.kind = 1) : numb s x = (x, s) := by
  unfold numb
  rw [if_neg (by omega), if_neg (by omega), if_neg (by omega), if_neg (by omega), if_neg (by omega), if_neg (by omega)]
end DR
theorem OpAt.setT {W : World} {b : Nat} {x : OpV} (h : OpAt W b x) (v : Int) : OpAt (W.setCell ⟨b, 2, none⟩ (.int .i64 v)) b { x with to := v } := heap_setCell_eq h 2 _
theorem OpAt.setP {W : World} {b : Nat} {x : OpV} (h : OpAt W b x) (v : ByteArray) : OpAt (W.setCell ⟨b, 6, none⟩ (.string v)) b { x with path := v } := heap_setCell_eq h 6 _
theorem OpAt.setD {W : World} {b : Nat} {x : OpV} (h : OpAt W b x) (v : ByteArray) : OpAt (W.setCell ⟨b, 7, none⟩ (.string v)) b { x with data := v } := heap_setCell_eq h 7 _
theorem OpAt.ext {W W' : World} {b : Nat} {x : OpV} (h : OpAt W b x) (he : Ext W W') : OpAt W' b x := (he.block h.lt).trans h
end Go.Proofs.Ytcnjklbmlplehaa
