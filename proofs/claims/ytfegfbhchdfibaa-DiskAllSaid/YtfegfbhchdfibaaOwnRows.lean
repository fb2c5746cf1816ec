/- Rows that a call owns, slices of numbers, what a store elsewhere leaves. (Graph, disk; the dots' texts have their own.) -/
import Derived.Test.YtfegfbhchdfibaaMem
import Derived.Test.YtfegfbhchdfibaaChecked
import Derived.Deep.RegionHeld3
import Derived.Maps.AppendAt
import Derived.Shelf.Lays
import Derived.BigQuiet
namespace Go.Proofs.Ytfegfbhchdfibaa
open Go.RowKit

theorem Ext.drewN {a w : World} (h : Ext a w) (k : Nat) : Ext a (w.drewN k) := ⟨h.os, h.tape, h.output, h.size, fun _ hk => h.block hk⟩
theorem alloc_cell (w : World) (cs : Array Value) (e : TypeId) (i : Nat) : (w.alloc (.cells cs e)).cell? ⟨w.heap.size, i, none⟩ = cs[i]? := by
  unfold World.cell? World.alloc
  simp
theorem take_next {α : Type} (l : List α) (k : Nat) (h : k < l.length) : l.take (k + 1) = l.take k ++ [l[k]] := by rw [List.take_add_one, List.getElem?_eq_getElem h]; rfl

def IntsAt (w : World) (b o : Nat) (l : List Int) : Prop := ∀ i (h : i < l.length), w.cell? ⟨b, o + i, none⟩ = some (.int .i64 l[i])
theorem IntsAt.ext {w w' : World} {b o : Nat} {l : List Int} (h : IntsAt w b o l) (he : Ext w w') : IntsAt w' b o l := fun i hi => he.cell (h i hi)
/-- A value that is a slice of numbers. -/
def IntsV (w : World) (v : Value) (l : List Int) : Prop := ∃ p c, v = .slice p l.length c ∧ l.length ≤ 70368744177664 ∧ (l.length = 0 ∨ ∃ b o, p = some ⟨b, o, none⟩ ∧ IntsAt w b o l)
theorem IntsV.ext {w w' : World} {v : Value} {l : List Int} (h : IntsV w v l) (he : Ext w w') : IntsV w' v l := by
  obtain ⟨p, c, h1, h2, h3⟩ := h
  exact ⟨p, c, h1, h2, h3.imp id fun ⟨b, o, hp, hs⟩ => ⟨b, o, hp, hs.ext he⟩⟩
theorem info_int : (Try.prog.info? 3).map (fun i => (i.zero, i.size, i.bytes)) = some (some (.int .i64 0), 1, 8) := by kernel_rfl
def intCells (l : List Int) : List Value := l.map (Value.int .i64)
theorem intCells_length (l : List Int) : (intCells l).length = l.length := List.length_map ..
theorem intCells_app (l : List Int) (x : Int) : intCells (l ++ [x]) = intCells l ++ [.int .i64 x] := by unfold intCells; rw [List.map_append]; rfl
theorem row_ints {W : World} {base : Nat} {e : TypeId} {v : Value} {l : List Int} (h : W.ownsRow base e 1 v l.length (intCells l)) (hl : l.length ≤ 70368744177664) : IntsV W v l := by
  rcases h.2 with ⟨rfl, h0⟩ | ⟨g, cap, cur, rfl, hb, hg, hn, hc, hs, hx⟩
  · have : l = [] := List.length_eq_zero_iff.1 h0
    subst this
    exact ⟨none, 0, rfl, by simp, .inl rfl⟩
  · refine ⟨_, cap, rfl, hl, .inr ⟨g, 0, rfl, fun i hi => ?_⟩⟩
    have k1 := h.cellAt i (by omega)
    rw [Nat.zero_add, k1]
    unfold intCells
    rw [List.getElem?_map, List.getElem?_eq_getElem hi]
    rfl

theorem row_to {W W' : World} {base : Nat} {e : TypeId} {size : Nat} {v : Value} {n : Nat} {xs : List Value} (h : W.ownsRow base e size v n xs) (he : Ext W W') : W'.ownsRow base e size v n xs := by
  refine ⟨h.1, h.2.imp id ?_⟩
  rintro ⟨g, cap, cur, rfl, h1, h2, h3⟩
  exact ⟨g, cap, cur, rfl, h1, (he.block (Array.getElem?_eq_some_iff.1 h2).1).trans h2, h3⟩
theorem row_base {W : World} {base base' : Nat} {e : TypeId} {size : Nat} {v : Value} {n : Nat} {xs : List Value} (h : W.ownsRow base e size v n xs) (hb : base' ≤ base) : W.ownsRow base' e size v n xs := by
  refine ⟨h.1, h.2.imp id ?_⟩
  rintro ⟨g, cap, cur, rfl, h1, h2⟩
  exact ⟨g, cap, cur, rfl, by omega, h2⟩
theorem row_slice {W : World} {base : Nat} {e : TypeId} {size : Nat} {v : Value} {n : Nat} {xs : List Value} (h : W.ownsRow base e size v n xs) : ∃ p c, v = .slice p n c := by
  rcases h.2 with ⟨rfl, rfl⟩ | ⟨g, cap, cur, rfl, _⟩
  · exact ⟨_, _, rfl⟩
  · exact ⟨_, _, rfl⟩
theorem ext_grownBy {w W W' : World} {k : Nat} (h : Ext w W) (hg : W.grownBy W' (some k)) (hk : w.heap.size ≤ k) : Ext w W' := h.grown hg (by intro j e; injection e with e; omega)
theorem ext_grownV {w W W' : World} {base : Nat} {e : TypeId} {size : Nat} {v : Value} {n : Nat} {xs : List Value} (h : Ext w W) (hr : W.ownsRow base e size v n xs) (hg : W.grownBy W' v.ownBlock) (hk : w.heap.size ≤ base) : Ext w W' :=
  h.grown hg (by intro j ej; have := hr.lt j ej; omega)
theorem row_grown {W W' : World} {base : Nat} {e : TypeId} {size : Nat} {v : Value} {n : Nat} {xs : List Value} {k : Nat} (h : W.ownsRow base e size v n xs) (hg : W.grownBy W' (some k)) (hne : v.ownBlock ≠ some k) : W'.ownsRow base e size v n xs := h.kept hg (.inr hne)
theorem grown_setCell (w : World) (g o : Nat) (v : Value) : w.grownBy (w.setCell ⟨g, o, none⟩ v) (some g) := ⟨rfl, rfl, rfl, Nat.le_of_eq (World.size_setCell _ _ _).symm, fun k hk hne => by
  show (w.heap.modify g _)[k]? = _
  rw [Array.getElem?_modify, if_neg (fun e => hne (by rw [e]))]⟩
theorem cell_row {w : World} {g i : Nat} {e : TypeId} {cur : Array Value} (h : w.heap[g]? = some (.cells cur e (0, 0))) : w.cell? ⟨g, i, none⟩ = cur[i]? ∧ w.frozen? ⟨g, i, none⟩ = false := by
  unfold World.cell? World.frozen?
  simp [h]

/-- A block of two cells. -/
def Two (W : World) (B : Nat) (t : TypeId) (x y : Value) : Prop := W.heap[B]? = some (.cells #[x, y] t (0, 0))
theorem Two.c0 {W : World} {B : Nat} {t : TypeId} {x y : Value} (h : Two W B t x y) : W.cell? ⟨B, 0, none⟩ = some x := (cell_row h).1
theorem Two.c1 {W : World} {B : Nat} {t : TypeId} {x y : Value} (h : Two W B t x y) : W.cell? ⟨B, 1, none⟩ = some y := (cell_row h).1
theorem Two.f0 {W : World} {B : Nat} {t : TypeId} {x y : Value} (h : Two W B t x y) : W.frozen? ⟨B, 0, none⟩ = false := (cell_row h).2
theorem Two.f1 {W : World} {B : Nat} {t : TypeId} {x y : Value} (h : Two W B t x y) : W.frozen? ⟨B, 1, none⟩ = false := (cell_row h).2
theorem Two.lt {W : World} {B : Nat} {t : TypeId} {x y : Value} (h : Two W B t x y) : B < W.heap.size := (Array.getElem?_eq_some_iff.1 h).1
theorem Two.new (W : World) (t : TypeId) (x y : Value) : Two (W.alloc (.cells #[x, y] t)) W.heap.size t x y := heap_alloc_new W _
theorem Two.ext {W W' : World} {B : Nat} {t : TypeId} {x y : Value} (h : Two W B t x y) (he : Ext W W') : Two W' B t x y := (he.block h.lt).trans h
theorem Two.grown {W W' : World} {B k : Nat} {t : TypeId} {x y : Value} (h : Two W B t x y) (hg : W.grownBy W' (some k)) (hne : B ≠ k) : Two W' B t x y := (hg.block B h.lt (by intro e; injection e with e; exact hne e)).trans h
theorem Two.grownV {W W' : World} {B base : Nat} {t e : TypeId} {x y v : Value} {size n : Nat} {xs : List Value} (h : Two W B t x y) (hr : W.ownsRow base e size v n xs) (hg : W.grownBy W' v.ownBlock) (hB : B < base) : Two W' B t x y :=
  (hg.block B h.lt (by intro ej; have := hr.lt B ej.symm; omega)).trans h
theorem Two.set0 {W : World} {B : Nat} {t : TypeId} {x y : Value} (h : Two W B t x y) (z : Value) : Two (W.setCell ⟨B, 0, none⟩ z) B t z y := by
  unfold Two World.setCell
  rw [Array.getElem?_modify, if_pos rfl, h]
  rfl
theorem Two.set1 {W : World} {B : Nat} {t : TypeId} {x y : Value} (h : Two W B t x y) (z : Value) : Two (W.setCell ⟨B, 1, none⟩ z) B t x z := by
  unfold Two World.setCell
  rw [Array.getElem?_modify, if_pos rfl, h]
  rfl
end Go.Proofs.Ytfegfbhchdfibaa
