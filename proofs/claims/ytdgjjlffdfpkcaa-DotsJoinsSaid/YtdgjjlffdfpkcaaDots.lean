/- Lists of dots: what they are, whether they may be, and how they lie in memory. -/
import Derived.Test.YtdgjjlffdfpkcaaMem
import Derived.Test.YtdgjjlffdfpkcaaChecked
namespace Go.Proofs.Ytdgjjlffdfpkcaa
open Go.RowKit

/-- A dot: its peer, and its count. -/
abbrev Dot := Int × Int

namespace Vec
/-- Why a dot may not be. -/
def dotE (d : Dot) : Nat := if d.1 < 0 ∨ 64 ≤ d.1 then 11 else if d.2 < 1 ∨ 1048576 < d.2 then 12 else 0
/-- Why a list is no vector. -/
def checkE (last : Int) : List Dot → Nat
  | [] => 0
  | d :: l => if dotE d ≠ 0 then dotE d else if d.1 ≤ last then 8 else checkE d.1 l

theorem dotE_peer {d : Dot} (h : d.1 < 0 ∨ 64 ≤ d.1) : dotE d = 11 := if_pos h
theorem dotE_count {d : Dot} (h : ¬ (d.1 < 0 ∨ 64 ≤ d.1)) (h2 : d.2 < 1 ∨ 1048576 < d.2) : dotE d = 12 := by unfold dotE; rw [if_neg h, if_pos h2]
theorem dotE_ok {d : Dot} (h : ¬ (d.1 < 0 ∨ 64 ≤ d.1)) (h2 : ¬ (d.2 < 1 ∨ 1048576 < d.2)) : dotE d = 0 := by unfold dotE; rw [if_neg h, if_neg h2]
theorem dotE_zero {d : Dot} (h : dotE d = 0) : 0 ≤ d.1 ∧ d.1 < 64 ∧ 1 ≤ d.2 ∧ d.2 ≤ 1048576 := by
  unfold dotE at h
  split at h
  · cases h
  · split at h
    · cases h
    · omega
theorem dotE_cases (d : Dot) : dotE d = 0 ∨ dotE d = 11 ∨ dotE d = 12 := by unfold dotE; split; · simp
                                                                            split <;> simp
end Vec

/-- A dot is of two machine integers. -/
def Fit (d : Dot) : Prop := (-9223372036854775808 ≤ d.1 ∧ d.1 < 9223372036854775808) ∧ (-9223372036854775808 ≤ d.2 ∧ d.2 < 9223372036854775808)

/-- The cells of a block, from a place on, hold dots. -/
def DotsAt (w : World) (b off : Nat) (l : List Dot) : Prop :=
  ∀ i (h : i < l.length), w.cell? ⟨b, off + i * 2, none⟩ = some (.int .i64 l[i].1) ∧ w.cell? ⟨b, off + i * 2 + 1, none⟩ = some (.int .i64 l[i].2)

theorem DotsAt.ext {w w' : World} {b off : Nat} {l : List Dot} (h : DotsAt w b off l) (he : Ext w w') : DotsAt w' b off l :=
  fun i hi => ⟨he.cell (h i hi).1, he.cell (h i hi).2⟩

/-- A slice value that reads as a list of dots. -/
def Dots (w : World) (p : Option Addr) (n : Nat) (l : List Dot) : Prop :=
  l.length = n ∧ n ≤ 70368744177664 ∧ (∀ d ∈ l, Fit d) ∧ (n = 0 ∨ ∃ b off, p = some ⟨b, off, none⟩ ∧ DotsAt w b off l)

theorem Dots.ext {w w' : World} {p : Option Addr} {n : Nat} {l : List Dot} (h : Dots w p n l) (he : Ext w w') : Dots w' p n l := by
  obtain ⟨h1, h2, h3, h4⟩ := h
  exact ⟨h1, h2, h3, h4.imp id fun ⟨b, off, hp, hs⟩ => ⟨b, off, hp, hs.ext he⟩⟩

theorem alloc_cell (w : World) (cs : Array Value) (e : TypeId) (i : Nat) : (w.alloc (.cells cs e)).cell? ⟨w.heap.size, i, none⟩ = cs[i]? := by
  unfold World.cell? World.alloc
  simp

theorem alloc_ext {w w' : World} (h : Ext w w') (o : Obj) : Ext w (w'.alloc o) := h.alloc o

/-- A dot, as a value. -/
def dotV (d : Dot) : Value := .agg #[.int .i64 d.1, .int .i64 d.2]

set_option maxRecDepth 100000 in
theorem vec_dot (x y : Int) (w : World) :
    Calls Try.prog 48 #[.agg #[.int .i64 x, .int .i64 y]] w fun e w' => e = .returned (.int .i64 (Vec.dotE (x, y) : Nat)) ∧ Ext w w' := by
  by_cases h : x < 0 ∨ 64 ≤ x
  · rw [Vec.dotE_peer h]
    rcases (show x < 0 ∨ (0 ≤ x ∧ 64 ≤ x) by omega) with h | ⟨h0, h⟩
    all_goals
      go_enter Try.func48, Try.ntmps48
      go_wp2
      go_ret
      exact ⟨rfl, (Ext.refl _).alloc _⟩
  · by_cases h2 : y < 1 ∨ 1048576 < y
    · rw [Vec.dotE_count h h2]
      have h0 : 0 ≤ x := by omega
      have h1 : x < 64 := by omega
      rcases (show y < 1 ∨ (1 ≤ y ∧ 1048576 < y) by omega) with h | ⟨h0, h⟩
      all_goals
        go_enter Try.func48, Try.ntmps48
        go_wp2
        go_ret
        exact ⟨rfl, (Ext.refl _).alloc _⟩
    · rw [Vec.dotE_ok h h2]
      have h0 : 0 ≤ x := by omega
      have h1 : x < 64 := by omega
      have h2 : 1 ≤ y := by omega
      have h3 : y ≤ 1048576 := by omega
      go_enter Try.func48, Try.ntmps48
      go_wp2
      go_ret
      exact ⟨rfl, (Ext.refl _).alloc _⟩

theorem take_next {α : Type} (l : List α) (k : Nat) (h : k < l.length) : l.take (k + 1) = l.take k ++ [l[k]] := by rw [List.take_add_one, List.getElem?_eq_getElem h]; rfl

end Go.Proofs.Ytdgjjlffdfpkcaa
