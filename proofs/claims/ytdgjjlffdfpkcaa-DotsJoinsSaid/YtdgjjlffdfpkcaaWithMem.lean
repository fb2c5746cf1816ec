/- Boxes of two cells, and what a store elsewhere leaves of dots. -/
import Derived.Test.YtdgjjlffdfpkcaaSetHas
import Derived.Test.YtdgjjlffdfpkcaaDotClone
import Derived.Test.YtdgjjlffdfpkcaaVecJoin
import Derived.ScopeJumps
namespace Go.Proofs.Ytdgjjlffdfpkcaa
open Go.RowKit Go.Shelf Go.Lib

/-- A block of two cells. -/
def Two (W : World) (B : Nat) (t : TypeId) (x y : Value) : Prop := W.heap[B]? = some (.cells #[x, y] t (0, 0))
theorem Two.c0 {W : World} {B : Nat} {t : TypeId} {x y : Value} (h : Two W B t x y) : W.cell? ⟨B, 0, none⟩ = some x := (cell_row h).1
theorem Two.c1 {W : World} {B : Nat} {t : TypeId} {x y : Value} (h : Two W B t x y) : W.cell? ⟨B, 1, none⟩ = some y := (cell_row h).1
theorem Two.f0 {W : World} {B : Nat} {t : TypeId} {x y : Value} (h : Two W B t x y) : W.frozen? ⟨B, 0, none⟩ = false := (cell_row h).2
theorem Two.f1 {W : World} {B : Nat} {t : TypeId} {x y : Value} (h : Two W B t x y) : W.frozen? ⟨B, 1, none⟩ = false := (cell_row h).2
theorem Two.lt {W : World} {B : Nat} {t : TypeId} {x y : Value} (h : Two W B t x y) : B < W.heap.size := (Array.getElem?_eq_some_iff.1 h).1
theorem Two.new (W : World) (t : TypeId) (x y : Value) : Two (W.alloc (.cells #[x, y] t)) W.heap.size t x y := heap_alloc_new W _
theorem Two.ext {W W' : World} {B : Nat} {t : TypeId} {x y : Value} (h : Two W B t x y) (he : Ext W W') : Two W' B t x y := (he.block h.lt).trans h
theorem Two.grown {W W' : World} {B k : Nat} {t : TypeId} {x y : Value} (h : Two W B t x y) (hg : W.grownBy W' (some k)) (hne : B ≠ k) : Two W' B t x y := (hg.block B h.lt (by intro e; injection e with e; exact hne e)).trans h
theorem Two.set0 {W : World} {B : Nat} {t : TypeId} {x y : Value} (h : Two W B t x y) (z : Value) : Two (W.setCell ⟨B, 0, none⟩ z) B t z y := by
  unfold Two World.setCell
  rw [Array.getElem?_modify, if_pos rfl, h]
  rfl
theorem Two.set1 {W : World} {B : Nat} {t : TypeId} {x y : Value} (h : Two W B t x y) (z : Value) : Two (W.setCell ⟨B, 1, none⟩ z) B t x z := by
  unfold Two World.setCell
  rw [Array.getElem?_modify, if_pos rfl, h]
  rfl

/-- A value that leads not to a block. -/
def Off (k : Nat) (v : Value) : Prop := ∀ q n c, v = .slice (some q) n c → q.block ≠ k
theorem NewV.off {M k : Nat} {v : Value} (h : NewV M v) (hk : k < M) : Off k v := fun q n c e => by have := h q n c e; omega
theorem DotsV.grown {W W' : World} {v : Value} {l : List Dot} {k : Nat} (h : DotsV W v l) (hg : W.grownBy W' (some k)) (ho : Off k v) : DotsV W' v l := by
  obtain ⟨p, c, rfl, h1, h2, h3, h4, h5, h6⟩ := h
  refine ⟨p, c, rfl, h1, h2, h3, h4, h5, h6.imp id ?_⟩
  rintro ⟨b, off, rfl, hs⟩
  have hne := ho ⟨b, off, none⟩ _ _ rfl
  exact ⟨b, off, rfl, fun i hi => ⟨hg.cell (hs i hi).1 (by intro e; injection e with e; exact hne e), hg.cell (hs i hi).2 (by intro e; injection e with e; exact hne e)⟩⟩
theorem row_grown {W W' : World} {base : Nat} {e : TypeId} {size : Nat} {v : Value} {n : Nat} {xs : List Value} {k : Nat} (h : W.ownsRow base e size v n xs) (hg : W.grownBy W' (some k)) (hne : v.ownBlock ≠ some k) : W'.ownsRow base e size v n xs := h.kept hg (.inr hne)
theorem row_to {W W' : World} {base : Nat} {e : TypeId} {size : Nat} {v : Value} {n : Nat} {xs : List Value} (h : W.ownsRow base e size v n xs) (he : Ext W W') : W'.ownsRow base e size v n xs := by
  refine ⟨h.1, h.2.imp id ?_⟩
  rintro ⟨g, cap, cur, rfl, h1, h2, h3⟩
  exact ⟨g, cap, cur, rfl, h1, (he.block (Array.getElem?_eq_some_iff.1 h2).1).trans h2, h3⟩
theorem row_base {W : World} {base base' : Nat} {e : TypeId} {size : Nat} {v : Value} {n : Nat} {xs : List Value} (h : W.ownsRow base e size v n xs) (hb : base' ≤ base) : W.ownsRow base' e size v n xs := by
  refine ⟨h.1, h.2.imp id ?_⟩
  rintro ⟨g, cap, cur, rfl, h1, h2⟩
  exact ⟨g, cap, cur, rfl, by omega, h2⟩
theorem ext_grownBy {w W W' : World} {k : Nat} (h : Ext w W) (hg : W.grownBy W' (some k)) (hk : w.heap.size ≤ k) : Ext w W' := h.grown hg (by intro j e; injection e with e; omega)
theorem ext_grownV {w W W' : World} {base : Nat} {e : TypeId} {size : Nat} {v : Value} {n : Nat} {xs : List Value} (h : Ext w W) (hr : W.ownsRow base e size v n xs) (hg : W.grownBy W' v.ownBlock) (hk : w.heap.size ≤ base) : Ext w W' :=
  h.grown hg (by intro j ej; have := hr.lt j ej; omega)
theorem grown_of_ext {W W' : World} (h : Ext W W') (k : Nat) : W.grownBy W' (some k) := ⟨h.os, h.tape, h.output, h.size, fun _ hk _ => h.block hk⟩

theorem row_slice {W : World} {base : Nat} {e : TypeId} {size : Nat} {v : Value} {n : Nat} {xs : List Value} (h : W.ownsRow base e size v n xs) : ∃ p c, v = .slice p n c := by
  rcases h.2 with ⟨rfl, rfl⟩ | ⟨g, cap, cur, rfl, _⟩
  · exact ⟨_, _, rfl⟩
  · exact ⟨_, _, rfl⟩
theorem Two.grownV {W W' : World} {B base : Nat} {t e : TypeId} {x y v : Value} {size n : Nat} {xs : List Value} (h : Two W B t x y) (hr : W.ownsRow base e size v n xs) (hg : W.grownBy W' v.ownBlock) (hB : B < base) : Two W' B t x y :=
  (hg.block B h.lt (by intro ej; have := hr.lt B ej.symm; omega)).trans h

theorem DS.ok_len {l : List Dot} (h : Vec.Ok l) : l.length ≤ 64 := Vec.ok_length h
/-- A dot taken out of further dots. -/
theorem filter_at {l : List Dot} {x : Dot} {i : Nat} (hs : l.Pairwise DS.lt) (hi : i < l.length) (hx : l[i] = x) : (l.filter fun d => decide (d ≠ x)) = l.take i ++ l.drop (i + 1) := by
  induction l generalizing i with
  | nil => simp at hi
  | cons d l ih =>
    have k := List.pairwise_cons.1 hs
    cases i with
    | zero =>
      have hd : d = x := hx
      subst hd
      rw [List.filter_cons_of_neg (by simp)]
      simp only [List.take_zero, List.nil_append, List.drop_succ_cons, List.drop_zero]
      refine List.filter_eq_self.2 fun y hy => ?_
      simp
      rintro rfl
      exact DS.lt_irrefl _ (k.1 y hy)
    | succ i =>
      have hi' : i < l.length := by simpa using hi
      have hx' : l[i] = x := hx
      have hne : d ≠ x := by
        rintro rfl
        have := k.1 l[i] (List.getElem_mem hi')
        rw [hx'] at this
        exact DS.lt_irrefl _ this
      rw [List.filter_cons_of_pos (by simpa using hne), ih k.2 hi' hx']
      rfl

end Go.Proofs.Ytdgjjlffdfpkcaa
