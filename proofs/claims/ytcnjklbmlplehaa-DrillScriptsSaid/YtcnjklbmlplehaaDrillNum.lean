/- The numbers of an operation that are drawn. -/
import Derived.Test.YtcnjklbmlplehaaDrillTo
namespace Go.Proofs.Ytcnjklbmlplehaa
open Go.RowKit

/-- An operation. -/
structure OpV where
  kind : Int
  peer : Int
  to : Int
  n : Int
  at_ : Int
  mask : Int
  path : ByteArray
  data : ByteArray
def OpV.v (x : OpV) : Value := .agg #[.int .i64 x.kind, .int .i64 x.peer, .int .i64 x.to, .int .i64 x.n, .int .i64 x.at_, .int .i64 x.mask, .string x.path, .string x.data]
namespace DR
def numb (s : Int) (x : OpV) : OpV × Int :=
  if x.kind = 2 then ({ x with n := 1 + bel s 70 }, nxt s)
  else if x.kind = 3 then ({ x with n := bel s 64 }, nxt s)
  else if x.kind = 8 then ({ x with n := bel s 8 }, nxt s)
  else if x.kind = 9 then ({ x with n := bel s 5, at_ := bel (nxt s) 60 }, nxt (nxt s))
  else if x.kind = 4 ∨ x.kind = 5 ∨ x.kind = 6 then ({ x with n := bel s 2 }, nxt s)
  else if x.kind = 7 then ({ x with n := bel s 2, at_ := bel (nxt s) 60, mask := 1 + bel (nxt (nxt s)) 1048576 }, nxt (nxt (nxt s)))
  else (x, s)
end DR

/-- An operation's cells. -/
def opCells (x : OpV) : Array Value := #[.int .i64 x.kind, .int .i64 x.peer, .int .i64 x.to, .int .i64 x.n, .int .i64 x.at_, .int .i64 x.mask, .string x.path, .string x.data]
def OpAt (W : World) (b : Nat) (x : OpV) : Prop := W.heap[b]? = some (.cells (opCells x) 43 (0, 0))
theorem OpAt.c {W : World} {b : Nat} {x : OpV} (h : OpAt W b x) (i : Nat) : W.cell? ⟨b, i, none⟩ = (opCells x)[i]? := (cell_row h).1
theorem OpAt.f {W : World} {b : Nat} {x : OpV} (h : OpAt W b x) (i : Nat) : W.frozen? ⟨b, i, none⟩ = false := (cell_row h (i := i)).2
theorem OpAt.lt {W : World} {b : Nat} {x : OpV} (h : OpAt W b x) : b < W.heap.size := (Array.getElem?_eq_some_iff.1 h).1
theorem OpAt.grown {W W' : World} {b k : Nat} {x : OpV} (h : OpAt W b x) (hg : W.grownBy W' (some k)) (hne : b ≠ k) : OpAt W' b x := (hg.block b h.lt (by intro e; injection e with e; exact hne e)).trans h
theorem OpAt.new (W : World) (x : OpV) : OpAt (W.alloc (.cells (opCells x) 43)) W.heap.size x := heap_alloc_new W _
theorem heap_setCell_eq {W : World} {b : Nat} {cur : Array Value} {t : TypeId} (h : W.heap[b]? = some (.cells cur t (0, 0))) (i : Nat) (v : Value) : (W.setCell ⟨b, i, none⟩ v).heap[b]? = some (.cells (cur.setIfInBounds i v) t (0, 0)) := by
  unfold World.setCell
  rw [Array.getElem?_modify, if_pos rfl, h]
  rfl
def opZero : OpV := ⟨0, 0, 0, 0, 0, 0, ⟨#[]⟩, ⟨#[]⟩⟩
theorem OpAt.setN {W : World} {b : Nat} {x : OpV} (h : OpAt W b x) (v : Int) : OpAt (W.setCell ⟨b, 3, none⟩ (.int .i64 v)) b { x with n := v } := heap_setCell_eq h 3 _
theorem OpAt.setA {W : World} {b : Nat} {x : OpV} (h : OpAt W b x) (v : Int) : OpAt (W.setCell ⟨b, 4, none⟩ (.int .i64 v)) b { x with at_ := v } := heap_setCell_eq h 4 _
theorem OpAt.setM {W : World} {b : Nat} {x : OpV} (h : OpAt W b x) (v : Int) : OpAt (W.setCell ⟨b, 5, none⟩ (.int .i64 v)) b { x with mask := v } := heap_setCell_eq h 5 _
theorem OpAt.cs {W : World} {b : Nat} {k p t n a m : Int} {pa da : ByteArray} (h : OpAt W b ⟨k, p, t, n, a, m, pa, da⟩) :
    W.cell? ⟨b, 0, none⟩ = some (.int .i64 k) ∧ W.cell? ⟨b, 1, none⟩ = some (.int .i64 p) ∧ W.cell? ⟨b, 2, none⟩ = some (.int .i64 t) ∧ W.cell? ⟨b, 3, none⟩ = some (.int .i64 n) ∧ W.cell? ⟨b, 4, none⟩ = some (.int .i64 a) ∧ W.cell? ⟨b, 5, none⟩ = some (.int .i64 m) ∧ W.cell? ⟨b, 6, none⟩ = some (.string pa) ∧ W.cell? ⟨b, 7, none⟩ = some (.string da) :=
  ⟨h.c 0, h.c 1, h.c 2, h.c 3, h.c 4, h.c 5, h.c 6, h.c 7⟩
theorem OpAt.fs {W : World} {b : Nat} {x : OpV} (h : OpAt W b x) :
    W.frozen? ⟨b, 0, none⟩ = false ∧ W.frozen? ⟨b, 1, none⟩ = false ∧ W.frozen? ⟨b, 2, none⟩ = false ∧ W.frozen? ⟨b, 3, none⟩ = false ∧ W.frozen? ⟨b, 4, none⟩ = false ∧ W.frozen? ⟨b, 5, none⟩ = false ∧ W.frozen? ⟨b, 6, none⟩ = false ∧ W.frozen? ⟨b, 7, none⟩ = false :=
  ⟨h.f 0, h.f 1, h.f 2, h.f 3, h.f 4, h.f 5, h.f 6, h.f 7⟩

set_option maxRecDepth 100000 in
set_option maxHeartbeats 1000000 in
theorem draw_numbers_plain (D : Nat) (s : Int) (g : Value) (k p t n a m : Int) (pa da : ByteArray) (w : World) (h : Drawer w D s g)
    (h2 : (k == 2) = false) (h3 : (k == 3) = false) (h8 : (k == 8) = false) (h9 : (k == 9) = false) (h4 : (k == 4) = false) (h5 : (k == 5) = false) (h6 : (k == 6) = false) (h7 : (k == 7) = false) :
    Calls Try.prog 38 #[.pointer (some ⟨D, 0, none⟩), .agg #[.int .i64 k, .int .i64 p, .int .i64 t, .int .i64 n, .int .i64 a, .int .i64 m, .string pa, .string da]] w
      fun e w' => e = .returned (.agg #[.int .i64 k, .int .i64 p, .int .i64 t, .int .i64 n, .int .i64 a, .int .i64 m, .string pa, .string da]) ∧ Drawer w' D s g ∧ w.grownBy w' (some D) := by
  have HH := Lib.hid h
  clear h
  go_enter Try.func38, Try.ntmps38
  go_wp2_with fail
  have HT := heap_alloc_new (w.alloc (.cells (opCells ⟨k, p, t, n, a, m, pa, da⟩) 43)) (.cells (opCells ⟨k, p, t, n, a, m, pa, da⟩) 43)
  rw [World.size_alloc] at HT
  refine bodyPost_ret (results_cell_row rfl _ _ (w.heap.size + 1) _ _ _ _ rfl HT Try.underlying43 rfl (by kernel_rfl)) rfl ?_
  exact ⟨rfl, (Two.ext HH.out ((Ext.refl w).alloc _)).ext ((Ext.refl _).alloc _), grown_more (grown_new w _ D) (grown_new _ _ D)⟩

/- GENERATED -/
theorem OpAt.all {W : World} {b : Nat} {y : OpV} (h : OpAt W b y) (k p t n a m : Int) (pa da : ByteArray) :
    OpAt ((((((((W.setCell ⟨b, 0, none⟩ (.int .i64 k)).setCell ⟨b, 1, none⟩ (.int .i64 p)).setCell ⟨b, 2, none⟩ (.int .i64 t)).setCell ⟨b, 3, none⟩ (.int .i64 n)).setCell ⟨b, 4, none⟩ (.int .i64 a)).setCell ⟨b, 5, none⟩ (.int .i64 m)).setCell ⟨b, 6, none⟩ (.string pa)).setCell ⟨b, 7, none⟩ (.string da)) b ⟨k, p, t, n, a, m, pa, da⟩ := by
  obtain ⟨y0, y1, y2, y3, y4, y5, y6, y7⟩ := y
  have h0 : (W.setCell ⟨b, 0, none⟩ (.int .i64 k)).heap[b]? = some (.cells #[.int .i64 k, .int .i64 y1, .int .i64 y2, .int .i64 y3, .int .i64 y4, .int .i64 y5, .string y6, .string y7] 43 (0, 0)) := heap_setCell_eq h 0 _
  have h1 : ((W.setCell ⟨b, 0, none⟩ (.int .i64 k)).setCell ⟨b, 1, none⟩ (.int .i64 p)).heap[b]? = some (.cells #[.int .i64 k, .int .i64 p, .int .i64 y2, .int .i64 y3, .int .i64 y4, .int .i64 y5, .string y6, .string y7] 43 (0, 0)) := heap_setCell_eq h0 1 _
  have h2 : (((W.setCell ⟨b, 0, none⟩ (.int .i64 k)).setCell ⟨b, 1, none⟩ (.int .i64 p)).setCell ⟨b, 2, none⟩ (.int .i64 t)).heap[b]? = some (.cells #[.int .i64 k, .int .i64 p, .int .i64 t, .int .i64 y3, .int .i64 y4, .int .i64 y5, .string y6, .string y7] 43 (0, 0)) := heap_setCell_eq h1 2 _
  have h3 : ((((W.setCell ⟨b, 0, none⟩ (.int .i64 k)).setCell ⟨b, 1, none⟩ (.int .i64 p)).setCell ⟨b, 2, none⟩ (.int .i64 t)).setCell ⟨b, 3, none⟩ (.int .i64 n)).heap[b]? = some (.cells #[.int .i64 k, .int .i64 p, .int .i64 t, .int .i64 n, .int .i64 y4, .int .i64 y5, .string y6, .string y7] 43 (0, 0)) := heap_setCell_eq h2 3 _
  have h4 : (((((W.setCell ⟨b, 0, none⟩ (.int .i64 k)).setCell ⟨b, 1, none⟩ (.int .i64 p)).setCell ⟨b, 2, none⟩ (.int .i64 t)).setCell ⟨b, 3, none⟩ (.int .i64 n)).setCell ⟨b, 4, none⟩ (.int .i64 a)).heap[b]? = some (.cells #[.int .i64 k, .int .i64 p, .int .i64 t, .int .i64 n, .int .i64 a, .int .i64 y5, .string y6, .string y7] 43 (0, 0)) := heap_setCell_eq h3 4 _
  have h5 : ((((((W.setCell ⟨b, 0, none⟩ (.int .i64 k)).setCell ⟨b, 1, none⟩ (.int .i64 p)).setCell ⟨b, 2, none⟩ (.int .i64 t)).setCell ⟨b, 3, none⟩ (.int .i64 n)).setCell ⟨b, 4, none⟩ (.int .i64 a)).setCell ⟨b, 5, none⟩ (.int .i64 m)).heap[b]? = some (.cells #[.int .i64 k, .int .i64 p, .int .i64 t, .int .i64 n, .int .i64 a, .int .i64 m, .string y6, .string y7] 43 (0, 0)) := heap_setCell_eq h4 5 _
  have h6 : (((((((W.setCell ⟨b, 0, none⟩ (.int .i64 k)).setCell ⟨b, 1, none⟩ (.int .i64 p)).setCell ⟨b, 2, none⟩ (.int .i64 t)).setCell ⟨b, 3, none⟩ (.int .i64 n)).setCell ⟨b, 4, none⟩ (.int .i64 a)).setCell ⟨b, 5, none⟩ (.int .i64 m)).setCell ⟨b, 6, none⟩ (.string pa)).heap[b]? = some (.cells #[.int .i64 k, .int .i64 p, .int .i64 t, .int .i64 n, .int .i64 a, .int .i64 m, .string pa, .string y7] 43 (0, 0)) := heap_setCell_eq h5 6 _
  have h7 : ((((((((W.setCell ⟨b, 0, none⟩ (.int .i64 k)).setCell ⟨b, 1, none⟩ (.int .i64 p)).setCell ⟨b, 2, none⟩ (.int .i64 t)).setCell ⟨b, 3, none⟩ (.int .i64 n)).setCell ⟨b, 4, none⟩ (.int .i64 a)).setCell ⟨b, 5, none⟩ (.int .i64 m)).setCell ⟨b, 6, none⟩ (.string pa)).setCell ⟨b, 7, none⟩ (.string da)).heap[b]? = some (.cells #[.int .i64 k, .int .i64 p, .int .i64 t, .int .i64 n, .int .i64 a, .int .i64 m, .string pa, .string da] 43 (0, 0)) := heap_setCell_eq h6 7 _
  exact h7
theorem grown_keep {w W : World} {D b : Nat} (h : w.grownBy W (some D)) (hb : w.heap.size ≤ b) (i : Nat) (v : Value) : w.grownBy (W.setCell ⟨b, i, none⟩ v) (some D) :=
  ⟨h.os, h.tape, h.output, by rw [World.size_setCell]; exact h.size, fun j hj hne => ((grown_setCell W b i v).block j (Nat.lt_of_lt_of_le hj h.size) (by intro e; injection e with e; omega)).trans (h.block j hj hne)⟩
theorem Drawer.keep {W : World} {D b : Nat} {s : Int} {g : Value} (h : Drawer W D s g) (hb : D ≠ b) (i : Nat) (v : Value) : Drawer (W.setCell ⟨b, i, none⟩ v) D s g := Two.grown h (grown_setCell W b i v) hb
theorem num_end {w W : World} {D b : Nat} {s : Int} {g : Value} (hd : Drawer W D s g) (hg : w.grownBy W (some D)) (hb : w.heap.size ≤ b) (hD : D ≠ b) (v0 v1 v2 v3 v4 v5 v6 v7 : Value) :
    Drawer ((((((((W.setCell ⟨b, 0, none⟩ v0).setCell ⟨b, 1, none⟩ v1).setCell ⟨b, 2, none⟩ v2).setCell ⟨b, 3, none⟩ v3).setCell ⟨b, 4, none⟩ v4).setCell ⟨b, 5, none⟩ v5).setCell ⟨b, 6, none⟩ v6).setCell ⟨b, 7, none⟩ v7) D s g ∧
    w.grownBy ((((((((W.setCell ⟨b, 0, none⟩ v0).setCell ⟨b, 1, none⟩ v1).setCell ⟨b, 2, none⟩ v2).setCell ⟨b, 3, none⟩ v3).setCell ⟨b, 4, none⟩ v4).setCell ⟨b, 5, none⟩ v5).setCell ⟨b, 6, none⟩ v6).setCell ⟨b, 7, none⟩ v7) (some D) :=
  ⟨(((((((hd.keep hD 0 v0).keep hD 1 v1).keep hD 2 v2).keep hD 3 v3).keep hD 4 v4).keep hD 5 v5).keep hD 6 v6).keep hD 7 v7,
   grown_keep (grown_keep (grown_keep (grown_keep (grown_keep (grown_keep (grown_keep (grown_keep hg hb 0 v0) hb 1 v1) hb 2 v2) hb 3 v3) hb 4 v4) hb 5 v5) hb 6 v6) hb 7 v7⟩

set_option maxRecDepth 100000 in
set_option maxHeartbeats 2000000 in
theorem draw_numbers_2 (D : Nat) (s : Int) (g : Value) (p t n a m : Int) (pa da : ByteArray) (w : World) (h : Drawer w D s g) :
    Calls Try.prog 38 #[.pointer (some ⟨D, 0, none⟩), .agg #[.int .i64 2, .int .i64 p, .int .i64 t, .int .i64 n, .int .i64 a, .int .i64 m, .string pa, .string da]] w
      fun e w' => e = .returned (.agg #[.int .i64 2, .int .i64 p, .int .i64 t, .int .i64 (1 + DR.bel s 70), .int .i64 a, .int .i64 m, .string pa, .string da]) ∧ Drawer w' D (DR.nxt s) g ∧ w.grownBy w' (some D) := by
  have hDl := Two.lt h
  obtain ⟨W0, hW0⟩ : ∃ W, ((w.alloc (.cells (opCells ⟨2, p, t, n, a, m, pa, da⟩) 43)).alloc (.cells (opCells opZero) 43)) = W := ⟨_, rfl⟩
  have hd0 : Drawer W0 D s g := by rw [← hW0]; exact (Two.ext h ((Ext.refl w).alloc _)).ext ((Ext.refl _).alloc _)
  have hg0 : w.grownBy W0 (some D) := by rw [← hW0]; exact grown_more (grown_new w _ D) (grown_new _ _ D)
  have hx0 : OpAt W0 w.heap.size ⟨2, p, t, n, a, m, pa, da⟩ := by
    rw [← hW0]
    exact (heap_alloc_old _ _ (by rw [World.size_alloc]; omega)).trans (OpAt.new w _)
  have hr0 : OpAt W0 (w.heap.size + 1) opZero := by
    rw [← hW0]
    have := OpAt.new (w.alloc (.cells (opCells ⟨2, p, t, n, a, m, pa, da⟩) 43)) opZero
    rw [World.size_alloc] at this
    exact this
  have hB0 := Lib.hid (draw_below D s 70 g W0 hd0 (by omega) (by omega))
  have hbb0 := DR.bel_bounds s 70 (by omega)
  have hs0 := grown_setCell W0 D 0 (.int .i64 (DR.nxt s))
  have hd1 : Drawer (W0.setCell ⟨D, 0, none⟩ (.int .i64 (DR.nxt s))) D (DR.nxt s) g := Two.set0 hd0 _
  have hx1 := hx0.grown hs0 (by omega)
  have hr1 := hr0.grown hs0 (by omega)
  have hg1 := grown_more hg0 hs0
  clear hs0 hd0 hx0 hr0 hg0
  obtain ⟨W1, hW1⟩ : ∃ W, W0.setCell ⟨D, 0, none⟩ (.int .i64 (DR.nxt s)) = W := ⟨_, rfl⟩
  rw [hW1] at hd1 hx1 hr1 hg1 hB0
  have HW1 := Lib.hid hW1
  clear hW1
  generalize DR.bel s 70 = k0 at *
  generalize DR.nxt s = s9 at *
  clear h
  subst hW0
  go_enter Try.func38, Try.ntmps38
  go_wp2_with fail
  refine hB0.out.mono ?_
  rintro e w1 ⟨rfl, hw1⟩
  subst hw1
  obtain ⟨fa00, fa01, fa02, fa03, fa04, fa05, fa06, fa07⟩ := hx1.fs
  obtain ⟨ca00, ca01, ca02, ca03, ca04, ca05, ca06, ca07⟩ := hx1.cs
  have hy0 := hx1.setN (1 + k0)
  have hz0 := hr1.grown (grown_setCell w1 w.heap.size 3 (.int .i64 (1 + k0))) (by omega)
  have he0 := Drawer.keep hd1 (b := w.heap.size) (by omega) 3 (.int .i64 (1 + k0))
  have hf0 := grown_keep hg1 (b := w.heap.size) (Nat.le_refl _) 3 (.int .i64 (1 + k0))
  obtain ⟨c0, c1, c2, c3, c4, c5, c6, c7⟩ := hy0.cs
  obtain ⟨q0, q1, q2, q3, q4, q5, q6, q7⟩ := hz0.cs
  obtain ⟨e0, e1, e2, e3, e4, e5, e6, e7⟩ := hz0.fs
  have HT := Lib.hid (OpAt.all hz0 2 p t (1 + k0) a m pa da)
  have HE := Lib.hid (num_end he0 hf0 (b := w.heap.size + 1) (by omega) (by omega) (.int .i64 2) (.int .i64 p) (.int .i64 t) (.int .i64 (1 + k0)) (.int .i64 (a)) (.int .i64 (m)) (.string pa) (.string da))
  clear hx1 hr1 hd1 hg1 hy0 hz0 he0 hf0
  go_wp2_with fail
  refine bodyPost_ret (results_cell_row rfl _ _ (w.heap.size + 1) _ _ _ _ rfl HT.out Try.underlying43 rfl (by kernel_rfl)) rfl ?_
  exact ⟨rfl, HE.out.1, HE.out.2⟩
set_option maxRecDepth 100000 in
set_option maxHeartbeats 2000000 in
theorem draw_numbers_3 (D : Nat) (s : Int) (g : Value) (p t n a m : Int) (pa da : ByteArray) (w : World) (h : Drawer w D s g) :
    Calls Try.prog 38 #[.pointer (some ⟨D, 0, none⟩), .agg #[.int .i64 3, .int .i64 p, .int .i64 t, .int .i64 n, .int .i64 a, .int .i64 m, .string pa, .string da]] w
      fun e w' => e = .returned (.agg #[.int .i64 3, .int .i64 p, .int .i64 t, .int .i64 (DR.bel s 64), .int .i64 a, .int .i64 m, .string pa, .string da]) ∧ Drawer w' D (DR.nxt s) g ∧ w.grownBy w' (some D) := by
  have hDl := Two.lt h
  obtain ⟨W0, hW0⟩ : ∃ W, ((w.alloc (.cells (opCells ⟨3, p, t, n, a, m, pa, da⟩) 43)).alloc (.cells (opCells opZero) 43)) = W := ⟨_, rfl⟩
  have hd0 : Drawer W0 D s g := by rw [← hW0]; exact (Two.ext h ((Ext.refl w).alloc _)).ext ((Ext.refl _).alloc _)
  have hg0 : w.grownBy W0 (some D) := by rw [← hW0]; exact grown_more (grown_new w _ D) (grown_new _ _ D)
  have hx0 : OpAt W0 w.heap.size ⟨3, p, t, n, a, m, pa, da⟩ := by
    rw [← hW0]
    exact (heap_alloc_old _ _ (by rw [World.size_alloc]; omega)).trans (OpAt.new w _)
  have hr0 : OpAt W0 (w.heap.size + 1) opZero := by
    rw [← hW0]
    have := OpAt.new (w.alloc (.cells (opCells ⟨3, p, t, n, a, m, pa, da⟩) 43)) opZero
    rw [World.size_alloc] at this
    exact this
  have hB0 := Lib.hid (draw_below D s 64 g W0 hd0 (by omega) (by omega))
  have hbb0 := DR.bel_bounds s 64 (by omega)
  have hs0 := grown_setCell W0 D 0 (.int .i64 (DR.nxt s))
  have hd1 : Drawer (W0.setCell ⟨D, 0, none⟩ (.int .i64 (DR.nxt s))) D (DR.nxt s) g := Two.set0 hd0 _
  have hx1 := hx0.grown hs0 (by omega)
  have hr1 := hr0.grown hs0 (by omega)
  have hg1 := grown_more hg0 hs0
  clear hs0 hd0 hx0 hr0 hg0
  obtain ⟨W1, hW1⟩ : ∃ W, W0.setCell ⟨D, 0, none⟩ (.int .i64 (DR.nxt s)) = W := ⟨_, rfl⟩
  rw [hW1] at hd1 hx1 hr1 hg1 hB0
  have HW1 := Lib.hid hW1
  clear hW1
  generalize DR.bel s 64 = k0 at *
  generalize DR.nxt s = s9 at *
  clear h
  subst hW0
  go_enter Try.func38, Try.ntmps38
  go_wp2_with fail
  refine hB0.out.mono ?_
  rintro e w1 ⟨rfl, hw1⟩
  subst hw1
  obtain ⟨fa00, fa01, fa02, fa03, fa04, fa05, fa06, fa07⟩ := hx1.fs
  obtain ⟨ca00, ca01, ca02, ca03, ca04, ca05, ca06, ca07⟩ := hx1.cs
  have hy0 := hx1.setN (k0)
  have hz0 := hr1.grown (grown_setCell w1 w.heap.size 3 (.int .i64 (k0))) (by omega)
  have he0 := Drawer.keep hd1 (b := w.heap.size) (by omega) 3 (.int .i64 (k0))
  have hf0 := grown_keep hg1 (b := w.heap.size) (Nat.le_refl _) 3 (.int .i64 (k0))
  obtain ⟨c0, c1, c2, c3, c4, c5, c6, c7⟩ := hy0.cs
  obtain ⟨q0, q1, q2, q3, q4, q5, q6, q7⟩ := hz0.cs
  obtain ⟨e0, e1, e2, e3, e4, e5, e6, e7⟩ := hz0.fs
  have HT := Lib.hid (OpAt.all hz0 3 p t (k0) a m pa da)
  have HE := Lib.hid (num_end he0 hf0 (b := w.heap.size + 1) (by omega) (by omega) (.int .i64 3) (.int .i64 p) (.int .i64 t) (.int .i64 (k0)) (.int .i64 (a)) (.int .i64 (m)) (.string pa) (.string da))
  clear hx1 hr1 hd1 hg1 hy0 hz0 he0 hf0
  go_wp2_with fail
  refine bodyPost_ret (results_cell_row rfl _ _ (w.heap.size + 1) _ _ _ _ rfl HT.out Try.underlying43 rfl (by kernel_rfl)) rfl ?_
  exact ⟨rfl, HE.out.1, HE.out.2⟩
set_option maxRecDepth 100000 in
set_option maxHeartbeats 2000000 in
theorem draw_numbers_8 (D : Nat) (s : Int) (g : Value) (p t n a m : Int) (pa da : ByteArray) (w : World) (h : Drawer w D s g) :
    Calls Try.prog 38 #[.pointer (some ⟨D, 0, none⟩), .agg #[.int .i64 8, .int .i64 p, .int .i64 t, .int .i64 n, .int .i64 a, .int .i64 m, .string pa, .string da]] w
      fun e w' => e = .returned (.agg #[.int .i64 8, .int .i64 p, .int .i64 t, .int .i64 (DR.bel s 8), .int .i64 a, .int .i64 m, .string pa, .string da]) ∧ Drawer w' D (DR.nxt s) g ∧ w.grownBy w' (some D) := by
  have hDl := Two.lt h
  obtain ⟨W0, hW0⟩ : ∃ W, ((w.alloc (.cells (opCells ⟨8, p, t, n, a, m, pa, da⟩) 43)).alloc (.cells (opCells opZero) 43)) = W := ⟨_, rfl⟩
  have hd0 : Drawer W0 D s g := by rw [← hW0]; exact (Two.ext h ((Ext.refl w).alloc _)).ext ((Ext.refl _).alloc _)
  have hg0 : w.grownBy W0 (some D) := by rw [← hW0]; exact grown_more (grown_new w _ D) (grown_new _ _ D)
  have hx0 : OpAt W0 w.heap.size ⟨8, p, t, n, a, m, pa, da⟩ := by
    rw [← hW0]
    exact (heap_alloc_old _ _ (by rw [World.size_alloc]; omega)).trans (OpAt.new w _)
  have hr0 : OpAt W0 (w.heap.size + 1) opZero := by
    rw [← hW0]
    have := OpAt.new (w.alloc (.cells (opCells ⟨8, p, t, n, a, m, pa, da⟩) 43)) opZero
    rw [World.size_alloc] at this
    exact this
  have hB0 := Lib.hid (draw_below D s 8 g W0 hd0 (by omega) (by omega))
  have hbb0 := DR.bel_bounds s 8 (by omega)
  have hs0 := grown_setCell W0 D 0 (.int .i64 (DR.nxt s))
  have hd1 : Drawer (W0.setCell ⟨D, 0, none⟩ (.int .i64 (DR.nxt s))) D (DR.nxt s) g := Two.set0 hd0 _
  have hx1 := hx0.grown hs0 (by omega)
  have hr1 := hr0.grown hs0 (by omega)
  have hg1 := grown_more hg0 hs0
  clear hs0 hd0 hx0 hr0 hg0
  obtain ⟨W1, hW1⟩ : ∃ W, W0.setCell ⟨D, 0, none⟩ (.int .i64 (DR.nxt s)) = W := ⟨_, rfl⟩
  rw [hW1] at hd1 hx1 hr1 hg1 hB0
  have HW1 := Lib.hid hW1
  clear hW1
  generalize DR.bel s 8 = k0 at *
  generalize DR.nxt s = s9 at *
  clear h
  subst hW0
  go_enter Try.func38, Try.ntmps38
  go_wp2_with fail
  refine hB0.out.mono ?_
  rintro e w1 ⟨rfl, hw1⟩
  subst hw1
  obtain ⟨fa00, fa01, fa02, fa03, fa04, fa05, fa06, fa07⟩ := hx1.fs
  obtain ⟨ca00, ca01, ca02, ca03, ca04, ca05, ca06, ca07⟩ := hx1.cs
  have hy0 := hx1.setN (k0)
  have hz0 := hr1.grown (grown_setCell w1 w.heap.size 3 (.int .i64 (k0))) (by omega)
  have he0 := Drawer.keep hd1 (b := w.heap.size) (by omega) 3 (.int .i64 (k0))
  have hf0 := grown_keep hg1 (b := w.heap.size) (Nat.le_refl _) 3 (.int .i64 (k0))
  obtain ⟨c0, c1, c2, c3, c4, c5, c6, c7⟩ := hy0.cs
  obtain ⟨q0, q1, q2, q3, q4, q5, q6, q7⟩ := hz0.cs
  obtain ⟨e0, e1, e2, e3, e4, e5, e6, e7⟩ := hz0.fs
  have HT := Lib.hid (OpAt.all hz0 8 p t (k0) a m pa da)
  have HE := Lib.hid (num_end he0 hf0 (b := w.heap.size + 1) (by omega) (by omega) (.int .i64 8) (.int .i64 p) (.int .i64 t) (.int .i64 (k0)) (.int .i64 (a)) (.int .i64 (m)) (.string pa) (.string da))
  clear hx1 hr1 hd1 hg1 hy0 hz0 he0 hf0
  go_wp2_with fail
  refine bodyPost_ret (results_cell_row rfl _ _ (w.heap.size + 1) _ _ _ _ rfl HT.out Try.underlying43 rfl (by kernel_rfl)) rfl ?_
  exact ⟨rfl, HE.out.1, HE.out.2⟩
set_option maxRecDepth 100000 in
set_option maxHeartbeats 2000000 in
theorem draw_numbers_9 (D : Nat) (s : Int) (g : Value) (p t n a m : Int) (pa da : ByteArray) (w : World) (h : Drawer w D s g) :
    Calls Try.prog 38 #[.pointer (some ⟨D, 0, none⟩), .agg #[.int .i64 9, .int .i64 p, .int .i64 t, .int .i64 n, .int .i64 a, .int .i64 m, .string pa, .string da]] w
      fun e w' => e = .returned (.agg #[.int .i64 9, .int .i64 p, .int .i64 t, .int .i64 (DR.bel s 5), .int .i64 (DR.bel (DR.nxt s) 60), .int .i64 m, .string pa, .string da]) ∧ Drawer w' D (DR.nxt (DR.nxt s)) g ∧ w.grownBy w' (some D) := by
  have hDl := Two.lt h
  obtain ⟨W0, hW0⟩ : ∃ W, ((w.alloc (.cells (opCells ⟨9, p, t, n, a, m, pa, da⟩) 43)).alloc (.cells (opCells opZero) 43)) = W := ⟨_, rfl⟩
  have hd0 : Drawer W0 D s g := by rw [← hW0]; exact (Two.ext h ((Ext.refl w).alloc _)).ext ((Ext.refl _).alloc _)
  have hg0 : w.grownBy W0 (some D) := by rw [← hW0]; exact grown_more (grown_new w _ D) (grown_new _ _ D)
  have hx0 : OpAt W0 w.heap.size ⟨9, p, t, n, a, m, pa, da⟩ := by
    rw [← hW0]
    exact (heap_alloc_old _ _ (by rw [World.size_alloc]; omega)).trans (OpAt.new w _)
  have hr0 : OpAt W0 (w.heap.size + 1) opZero := by
    rw [← hW0]
    have := OpAt.new (w.alloc (.cells (opCells ⟨9, p, t, n, a, m, pa, da⟩) 43)) opZero
    rw [World.size_alloc] at this
    exact this
  have hB0 := Lib.hid (draw_below D s 5 g W0 hd0 (by omega) (by omega))
  have hbb0 := DR.bel_bounds s 5 (by omega)
  have hs0 := grown_setCell W0 D 0 (.int .i64 (DR.nxt s))
  have hd1 : Drawer (W0.setCell ⟨D, 0, none⟩ (.int .i64 (DR.nxt s))) D (DR.nxt s) g := Two.set0 hd0 _
  have hx1 := hx0.grown hs0 (by omega)
  have hr1 := hr0.grown hs0 (by omega)
  have hg1 := grown_more hg0 hs0
  clear hs0 hd0 hx0 hr0 hg0
  obtain ⟨W1, hW1⟩ : ∃ W, W0.setCell ⟨D, 0, none⟩ (.int .i64 (DR.nxt s)) = W := ⟨_, rfl⟩
  rw [hW1] at hd1 hx1 hr1 hg1 hB0
  have HW1 := Lib.hid hW1
  clear hW1
  have hB1 := Lib.hid (draw_below D (DR.nxt s) 60 g W1 hd1 (by omega) (by omega))
  have hbb1 := DR.bel_bounds (DR.nxt s) 60 (by omega)
  have hs1 := grown_setCell W1 D 0 (.int .i64 (DR.nxt (DR.nxt s)))
  have hd2 : Drawer (W1.setCell ⟨D, 0, none⟩ (.int .i64 (DR.nxt (DR.nxt s)))) D (DR.nxt (DR.nxt s)) g := Two.set0 hd1 _
  have hx2 := hx1.grown hs1 (by omega)
  have hr2 := hr1.grown hs1 (by omega)
  have hg2 := grown_more hg1 hs1
  clear hs1 hd1 hx1 hr1 hg1
  obtain ⟨W2, hW2⟩ : ∃ W, W1.setCell ⟨D, 0, none⟩ (.int .i64 (DR.nxt (DR.nxt s))) = W := ⟨_, rfl⟩
  rw [hW2] at hd2 hx2 hr2 hg2 hB1
  have HW2 := Lib.hid hW2
  clear hW2
  generalize DR.bel s 5 = k0 at *
  generalize DR.bel (DR.nxt s) 60 = k1 at *
  clear h
  subst hW0
  go_enter Try.func38, Try.ntmps38
  go_wp2_with fail
  refine hB0.out.mono ?_
  rintro e w1 ⟨rfl, hw1⟩
  subst hw1
  go_wp2_with fail
  refine hB1.out.mono ?_
  rintro e w2 ⟨rfl, hw2⟩
  subst hw2
  obtain ⟨fa00, fa01, fa02, fa03, fa04, fa05, fa06, fa07⟩ := hx2.fs
  obtain ⟨ca00, ca01, ca02, ca03, ca04, ca05, ca06, ca07⟩ := hx2.cs
  have hy0 := hx2.setN (k0)
  have hz0 := hr2.grown (grown_setCell w2 w.heap.size 3 (.int .i64 (k0))) (by omega)
  have he0 := Drawer.keep hd2 (b := w.heap.size) (by omega) 3 (.int .i64 (k0))
  have hf0 := grown_keep hg2 (b := w.heap.size) (Nat.le_refl _) 3 (.int .i64 (k0))
  obtain ⟨fa10, fa11, fa12, fa13, fa14, fa15, fa16, fa17⟩ := hy0.fs
  obtain ⟨ca10, ca11, ca12, ca13, ca14, ca15, ca16, ca17⟩ := hy0.cs
  have hy1 := hy0.setA (k1)
  have hz1 := hz0.grown (grown_setCell (w2.setCell ⟨w.heap.size, 3, none⟩ (.int .i64 (k0))) w.heap.size 4 (.int .i64 (k1))) (by omega)
  have he1 := Drawer.keep he0 (b := w.heap.size) (by omega) 4 (.int .i64 (k1))
  have hf1 := grown_keep hf0 (b := w.heap.size) (Nat.le_refl _) 4 (.int .i64 (k1))
  obtain ⟨c0, c1, c2, c3, c4, c5, c6, c7⟩ := hy1.cs
  obtain ⟨q0, q1, q2, q3, q4, q5, q6, q7⟩ := hz1.cs
  obtain ⟨e0, e1, e2, e3, e4, e5, e6, e7⟩ := hz1.fs
  have HT := Lib.hid (OpAt.all hz1 9 p t (k0) (k1) m pa da)
  have HE := Lib.hid (num_end he1 hf1 (b := w.heap.size + 1) (by omega) (by omega) (.int .i64 9) (.int .i64 p) (.int .i64 t) (.int .i64 (k0)) (.int .i64 (k1)) (.int .i64 (m)) (.string pa) (.string da))
  clear hx2 hr2 hd2 hg2 hy0 hz0 he0 hf0 hy1 hz1 he1 hf1
  go_wp2_with fail
  refine bodyPost_ret (results_cell_row rfl _ _ (w.heap.size + 1) _ _ _ _ rfl HT.out Try.underlying43 rfl (by kernel_rfl)) rfl ?_
  exact ⟨rfl, HE.out.1, HE.out.2⟩
set_option maxRecDepth 100000 in
set_option maxHeartbeats 2000000 in
theorem draw_numbers_4 (D : Nat) (s : Int) (g : Value) (p t n a m : Int) (pa da : ByteArray) (w : World) (h : Drawer w D s g) :
    Calls Try.prog 38 #[.pointer (some ⟨D, 0, none⟩), .agg #[.int .i64 4, .int .i64 p, .int .i64 t, .int .i64 n, .int .i64 a, .int .i64 m, .string pa, .string da]] w
      fun e w' => e = .returned (.agg #[.int .i64 4, .int .i64 p, .int .i64 t, .int .i64 (DR.bel s 2), .int .i64 a, .int .i64 m, .string pa, .string da]) ∧ Drawer w' D (DR.nxt s) g ∧ w.grownBy w' (some D) := by
  have hDl := Two.lt h
  obtain ⟨W0, hW0⟩ : ∃ W, ((w.alloc (.cells (opCells ⟨4, p, t, n, a, m, pa, da⟩) 43)).alloc (.cells (opCells opZero) 43)) = W := ⟨_, rfl⟩
  have hd0 : Drawer W0 D s g := by rw [← hW0]; exact (Two.ext h ((Ext.refl w).alloc _)).ext ((Ext.refl _).alloc _)
  have hg0 : w.grownBy W0 (some D) := by rw [← hW0]; exact grown_more (grown_new w _ D) (grown_new _ _ D)
  have hx0 : OpAt W0 w.heap.size ⟨4, p, t, n, a, m, pa, da⟩ := by
    rw [← hW0]
    exact (heap_alloc_old _ _ (by rw [World.size_alloc]; omega)).trans (OpAt.new w _)
  have hr0 : OpAt W0 (w.heap.size + 1) opZero := by
    rw [← hW0]
    have := OpAt.new (w.alloc (.cells (opCells ⟨4, p, t, n, a, m, pa, da⟩) 43)) opZero
    rw [World.size_alloc] at this
    exact this
  have hB0 := Lib.hid (draw_below D s 2 g W0 hd0 (by omega) (by omega))
  have hbb0 := DR.bel_bounds s 2 (by omega)
  have hs0 := grown_setCell W0 D 0 (.int .i64 (DR.nxt s))
  have hd1 : Drawer (W0.setCell ⟨D, 0, none⟩ (.int .i64 (DR.nxt s))) D (DR.nxt s) g := Two.set0 hd0 _
  have hx1 := hx0.grown hs0 (by omega)
  have hr1 := hr0.grown hs0 (by omega)
  have hg1 := grown_more hg0 hs0
  clear hs0 hd0 hx0 hr0 hg0
  obtain ⟨W1, hW1⟩ : ∃ W, W0.setCell ⟨D, 0, none⟩ (.int .i64 (DR.nxt s)) = W := ⟨_, rfl⟩
  rw [hW1] at hd1 hx1 hr1 hg1 hB0
  have HW1 := Lib.hid hW1
  clear hW1
  generalize DR.bel s 2 = k0 at *
  generalize DR.nxt s = s9 at *
  clear h
  subst hW0
  go_enter Try.func38, Try.ntmps38
  go_wp2_with fail
  refine hB0.out.mono ?_
  rintro e w1 ⟨rfl, hw1⟩
  subst hw1
  obtain ⟨fa00, fa01, fa02, fa03, fa04, fa05, fa06, fa07⟩ := hx1.fs
  obtain ⟨ca00, ca01, ca02, ca03, ca04, ca05, ca06, ca07⟩ := hx1.cs
  have hy0 := hx1.setN (k0)
  have hz0 := hr1.grown (grown_setCell w1 w.heap.size 3 (.int .i64 (k0))) (by omega)
  have he0 := Drawer.keep hd1 (b := w.heap.size) (by omega) 3 (.int .i64 (k0))
  have hf0 := grown_keep hg1 (b := w.heap.size) (Nat.le_refl _) 3 (.int .i64 (k0))
  obtain ⟨c0, c1, c2, c3, c4, c5, c6, c7⟩ := hy0.cs
  obtain ⟨q0, q1, q2, q3, q4, q5, q6, q7⟩ := hz0.cs
  obtain ⟨e0, e1, e2, e3, e4, e5, e6, e7⟩ := hz0.fs
  have HT := Lib.hid (OpAt.all hz0 4 p t (k0) a m pa da)
  have HE := Lib.hid (num_end he0 hf0 (b := w.heap.size + 1) (by omega) (by omega) (.int .i64 4) (.int .i64 p) (.int .i64 t) (.int .i64 (k0)) (.int .i64 (a)) (.int .i64 (m)) (.string pa) (.string da))
  clear hx1 hr1 hd1 hg1 hy0 hz0 he0 hf0
  go_wp2_with fail
  refine bodyPost_ret (results_cell_row rfl _ _ (w.heap.size + 1) _ _ _ _ rfl HT.out Try.underlying43 rfl (by kernel_rfl)) rfl ?_
  exact ⟨rfl, HE.out.1, HE.out.2⟩
set_option maxRecDepth 100000 in
set_option maxHeartbeats 2000000 in
theorem draw_numbers_5 (D : Nat) (s : Int) (g : Value) (p t n a m : Int) (pa da : ByteArray) (w : World) (h : Drawer w D s g) :
    Calls Try.prog 38 #[.pointer (some ⟨D, 0, none⟩), .agg #[.int .i64 5, .int .i64 p, .int .i64 t, .int .i64 n, .int .i64 a, .int .i64 m, .string pa, .string da]] w
      fun e w' => e = .returned (.agg #[.int .i64 5, .int .i64 p, .int .i64 t, .int .i64 (DR.bel s 2), .int .i64 a, .int .i64 m, .string pa, .string da]) ∧ Drawer w' D (DR.nxt s) g ∧ w.grownBy w' (some D) := by
  have hDl := Two.lt h
  obtain ⟨W0, hW0⟩ : ∃ W, ((w.alloc (.cells (opCells ⟨5, p, t, n, a, m, pa, da⟩) 43)).alloc (.cells (opCells opZero) 43)) = W := ⟨_, rfl⟩
  have hd0 : Drawer W0 D s g := by rw [← hW0]; exact (Two.ext h ((Ext.refl w).alloc _)).ext ((Ext.refl _).alloc _)
  have hg0 : w.grownBy W0 (some D) := by rw [← hW0]; exact grown_more (grown_new w _ D) (grown_new _ _ D)
  have hx0 : OpAt W0 w.heap.size ⟨5, p, t, n, a, m, pa, da⟩ := by
    rw [← hW0]
    exact (heap_alloc_old _ _ (by rw [World.size_alloc]; omega)).trans (OpAt.new w _)
  have hr0 : OpAt W0 (w.heap.size + 1) opZero := by
    rw [← hW0]
    have := OpAt.new (w.alloc (.cells (opCells ⟨5, p, t, n, a, m, pa, da⟩) 43)) opZero
    rw [World.size_alloc] at this
    exact this
  have hB0 := Lib.hid (draw_below D s 2 g W0 hd0 (by omega) (by omega))
  have hbb0 := DR.bel_bounds s 2 (by omega)
  have hs0 := grown_setCell W0 D 0 (.int .i64 (DR.nxt s))
  have hd1 : Drawer (W0.setCell ⟨D, 0, none⟩ (.int .i64 (DR.nxt s))) D (DR.nxt s) g := Two.set0 hd0 _
  have hx1 := hx0.grown hs0 (by omega)
  have hr1 := hr0.grown hs0 (by omega)
  have hg1 := grown_more hg0 hs0
  clear hs0 hd0 hx0 hr0 hg0
  obtain ⟨W1, hW1⟩ : ∃ W, W0.setCell ⟨D, 0, none⟩ (.int .i64 (DR.nxt s)) = W := ⟨_, rfl⟩
  rw [hW1] at hd1 hx1 hr1 hg1 hB0
  have HW1 := Lib.hid hW1
  clear hW1
  generalize DR.bel s 2 = k0 at *
  generalize DR.nxt s = s9 at *
  clear h
  subst hW0
  go_enter Try.func38, Try.ntmps38
  go_wp2_with fail
  refine hB0.out.mono ?_
  rintro e w1 ⟨rfl, hw1⟩
  subst hw1
  obtain ⟨fa00, fa01, fa02, fa03, fa04, fa05, fa06, fa07⟩ := hx1.fs
  obtain ⟨ca00, ca01, ca02, ca03, ca04, ca05, ca06, ca07⟩ := hx1.cs
  have hy0 := hx1.setN (k0)
  have hz0 := hr1.grown (grown_setCell w1 w.heap.size 3 (.int .i64 (k0))) (by omega)
  have he0 := Drawer.keep hd1 (b := w.heap.size) (by omega) 3 (.int .i64 (k0))
  have hf0 := grown_keep hg1 (b := w.heap.size) (Nat.le_refl _) 3 (.int .i64 (k0))
  obtain ⟨c0, c1, c2, c3, c4, c5, c6, c7⟩ := hy0.cs
  obtain ⟨q0, q1, q2, q3, q4, q5, q6, q7⟩ := hz0.cs
  obtain ⟨e0, e1, e2, e3, e4, e5, e6, e7⟩ := hz0.fs
  have HT := Lib.hid (OpAt.all hz0 5 p t (k0) a m pa da)
  have HE := Lib.hid (num_end he0 hf0 (b := w.heap.size + 1) (by omega) (by omega) (.int .i64 5) (.int .i64 p) (.int .i64 t) (.int .i64 (k0)) (.int .i64 (a)) (.int .i64 (m)) (.string pa) (.string da))
  clear hx1 hr1 hd1 hg1 hy0 hz0 he0 hf0
  go_wp2_with fail
  refine bodyPost_ret (results_cell_row rfl _ _ (w.heap.size + 1) _ _ _ _ rfl HT.out Try.underlying43 rfl (by kernel_rfl)) rfl ?_
  exact ⟨rfl, HE.out.1, HE.out.2⟩
set_option maxRecDepth 100000 in
set_option maxHeartbeats 2000000 in
theorem draw_numbers_6 (D : Nat) (s : Int) (g : Value) (p t n a m : Int) (pa da : ByteArray) (w : World) (h : Drawer w D s g) :
    Calls Try.prog 38 #[.pointer (some ⟨D, 0, none⟩), .agg #[.int .i64 6, .int .i64 p, .int .i64 t, .int .i64 n, .int .i64 a, .int .i64 m, .string pa, .string da]] w
      fun e w' => e = .returned (.agg #[.int .i64 6, .int .i64 p, .int .i64 t, .int .i64 (DR.bel s 2), .int .i64 a, .int .i64 m, .string pa, .string da]) ∧ Drawer w' D (DR.nxt s) g ∧ w.grownBy w' (some D) := by
  have hDl := Two.lt h
  obtain ⟨W0, hW0⟩ : ∃ W, ((w.alloc (.cells (opCells ⟨6, p, t, n, a, m, pa, da⟩) 43)).alloc (.cells (opCells opZero) 43)) = W := ⟨_, rfl⟩
  have hd0 : Drawer W0 D s g := by rw [← hW0]; exact (Two.ext h ((Ext.refl w).alloc _)).ext ((Ext.refl _).alloc _)
  have hg0 : w.grownBy W0 (some D) := by rw [← hW0]; exact grown_more (grown_new w _ D) (grown_new _ _ D)
  have hx0 : OpAt W0 w.heap.size ⟨6, p, t, n, a, m, pa, da⟩ := by
    rw [← hW0]
    exact (heap_alloc_old _ _ (by rw [World.size_alloc]; omega)).trans (OpAt.new w _)
  have hr0 : OpAt W0 (w.heap.size + 1) opZero := by
    rw [← hW0]
    have := OpAt.new (w.alloc (.cells (opCells ⟨6, p, t, n, a, m, pa, da⟩) 43)) opZero
    rw [World.size_alloc] at this
    exact this
  have hB0 := Lib.hid (draw_below D s 2 g W0 hd0 (by omega) (by omega))
  have hbb0 := DR.bel_bounds s 2 (by omega)
  have hs0 := grown_setCell W0 D 0 (.int .i64 (DR.nxt s))
  have hd1 : Drawer (W0.setCell ⟨D, 0, none⟩ (.int .i64 (DR.nxt s))) D (DR.nxt s) g := Two.set0 hd0 _
  have hx1 := hx0.grown hs0 (by omega)
  have hr1 := hr0.grown hs0 (by omega)
  have hg1 := grown_more hg0 hs0
  clear hs0 hd0 hx0 hr0 hg0
  obtain ⟨W1, hW1⟩ : ∃ W, W0.setCell ⟨D, 0, none⟩ (.int .i64 (DR.nxt s)) = W := ⟨_, rfl⟩
  rw [hW1] at hd1 hx1 hr1 hg1 hB0
  have HW1 := Lib.hid hW1
  clear hW1
  generalize DR.bel s 2 = k0 at *
  generalize DR.nxt s = s9 at *
  clear h
  subst hW0
  go_enter Try.func38, Try.ntmps38
  go_wp2_with fail
  refine hB0.out.mono ?_
  rintro e w1 ⟨rfl, hw1⟩
  subst hw1
  obtain ⟨fa00, fa01, fa02, fa03, fa04, fa05, fa06, fa07⟩ := hx1.fs
  obtain ⟨ca00, ca01, ca02, ca03, ca04, ca05, ca06, ca07⟩ := hx1.cs
  have hy0 := hx1.setN (k0)
  have hz0 := hr1.grown (grown_setCell w1 w.heap.size 3 (.int .i64 (k0))) (by omega)
  have he0 := Drawer.keep hd1 (b := w.heap.size) (by omega) 3 (.int .i64 (k0))
  have hf0 := grown_keep hg1 (b := w.heap.size) (Nat.le_refl _) 3 (.int .i64 (k0))
  obtain ⟨c0, c1, c2, c3, c4, c5, c6, c7⟩ := hy0.cs
  obtain ⟨q0, q1, q2, q3, q4, q5, q6, q7⟩ := hz0.cs
  obtain ⟨e0, e1, e2, e3, e4, e5, e6, e7⟩ := hz0.fs
  have HT := Lib.hid (OpAt.all hz0 6 p t (k0) a m pa da)
  have HE := Lib.hid (num_end he0 hf0 (b := w.heap.size + 1) (by omega) (by omega) (.int .i64 6) (.int .i64 p) (.int .i64 t) (.int .i64 (k0)) (.int .i64 (a)) (.int .i64 (m)) (.string pa) (.string da))
  clear hx1 hr1 hd1 hg1 hy0 hz0 he0 hf0
  go_wp2_with fail
  refine bodyPost_ret (results_cell_row rfl _ _ (w.heap.size + 1) _ _ _ _ rfl HT.out Try.underlying43 rfl (by kernel_rfl)) rfl ?_
  exact ⟨rfl, HE.out.1, HE.out.2⟩
set_option maxRecDepth 100000 in
set_option maxHeartbeats 2000000 in
theorem draw_numbers_7 (D : Nat) (s : Int) (g : Value) (p t n a m : Int) (pa da : ByteArray) (w : World) (h : Drawer w D s g) :
    Calls Try.prog 38 #[.pointer (some ⟨D, 0, none⟩), .agg #[.int .i64 7, .int .i64 p, .int .i64 t, .int .i64 n, .int .i64 a, .int .i64 m, .string pa, .string da]] w
      fun e w' => e = .returned (.agg #[.int .i64 7, .int .i64 p, .int .i64 t, .int .i64 (DR.bel s 2), .int .i64 (DR.bel (DR.nxt s) 60), .int .i64 (1 + DR.bel (DR.nxt (DR.nxt s)) 1048576), .string pa, .string da]) ∧ Drawer w' D (DR.nxt (DR.nxt (DR.nxt s))) g ∧ w.grownBy w' (some D) := by
  have hDl := Two.lt h
  obtain ⟨W0, hW0⟩ : ∃ W, ((w.alloc (.cells (opCells ⟨7, p, t, n, a, m, pa, da⟩) 43)).alloc (.cells (opCells opZero) 43)) = W := ⟨_, rfl⟩
  have hd0 : Drawer W0 D s g := by rw [← hW0]; exact (Two.ext h ((Ext.refl w).alloc _)).ext ((Ext.refl _).alloc _)
  have hg0 : w.grownBy W0 (some D) := by rw [← hW0]; exact grown_more (grown_new w _ D) (grown_new _ _ D)
  have hx0 : OpAt W0 w.heap.size ⟨7, p, t, n, a, m, pa, da⟩ := by
    rw [← hW0]
    exact (heap_alloc_old _ _ (by rw [World.size_alloc]; omega)).trans (OpAt.new w _)
  have hr0 : OpAt W0 (w.heap.size + 1) opZero := by
    rw [← hW0]
    have := OpAt.new (w.alloc (.cells (opCells ⟨7, p, t, n, a, m, pa, da⟩) 43)) opZero
    rw [World.size_alloc] at this
    exact this
  have hB0 := Lib.hid (draw_below D s 2 g W0 hd0 (by omega) (by omega))
  have hbb0 := DR.bel_bounds s 2 (by omega)
  have hs0 := grown_setCell W0 D 0 (.int .i64 (DR.nxt s))
  have hd1 : Drawer (W0.setCell ⟨D, 0, none⟩ (.int .i64 (DR.nxt s))) D (DR.nxt s) g := Two.set0 hd0 _
  have hx1 := hx0.grown hs0 (by omega)
  have hr1 := hr0.grown hs0 (by omega)
  have hg1 := grown_more hg0 hs0
  clear hs0 hd0 hx0 hr0 hg0
  obtain ⟨W1, hW1⟩ : ∃ W, W0.setCell ⟨D, 0, none⟩ (.int .i64 (DR.nxt s)) = W := ⟨_, rfl⟩
  rw [hW1] at hd1 hx1 hr1 hg1 hB0
  have HW1 := Lib.hid hW1
  clear hW1
  have hB1 := Lib.hid (draw_below D (DR.nxt s) 60 g W1 hd1 (by omega) (by omega))
  have hbb1 := DR.bel_bounds (DR.nxt s) 60 (by omega)
  have hs1 := grown_setCell W1 D 0 (.int .i64 (DR.nxt (DR.nxt s)))
  have hd2 : Drawer (W1.setCell ⟨D, 0, none⟩ (.int .i64 (DR.nxt (DR.nxt s)))) D (DR.nxt (DR.nxt s)) g := Two.set0 hd1 _
  have hx2 := hx1.grown hs1 (by omega)
  have hr2 := hr1.grown hs1 (by omega)
  have hg2 := grown_more hg1 hs1
  clear hs1 hd1 hx1 hr1 hg1
  obtain ⟨W2, hW2⟩ : ∃ W, W1.setCell ⟨D, 0, none⟩ (.int .i64 (DR.nxt (DR.nxt s))) = W := ⟨_, rfl⟩
  rw [hW2] at hd2 hx2 hr2 hg2 hB1
  have HW2 := Lib.hid hW2
  clear hW2
  have hB2 := Lib.hid (draw_below D (DR.nxt (DR.nxt s)) 1048576 g W2 hd2 (by omega) (by omega))
  have hbb2 := DR.bel_bounds (DR.nxt (DR.nxt s)) 1048576 (by omega)
  have hs2 := grown_setCell W2 D 0 (.int .i64 (DR.nxt (DR.nxt (DR.nxt s))))
  have hd3 : Drawer (W2.setCell ⟨D, 0, none⟩ (.int .i64 (DR.nxt (DR.nxt (DR.nxt s))))) D (DR.nxt (DR.nxt (DR.nxt s))) g := Two.set0 hd2 _
  have hx3 := hx2.grown hs2 (by omega)
  have hr3 := hr2.grown hs2 (by omega)
  have hg3 := grown_more hg2 hs2
  clear hs2 hd2 hx2 hr2 hg2
  obtain ⟨W3, hW3⟩ : ∃ W, W2.setCell ⟨D, 0, none⟩ (.int .i64 (DR.nxt (DR.nxt (DR.nxt s)))) = W := ⟨_, rfl⟩
  rw [hW3] at hd3 hx3 hr3 hg3 hB2
  have HW3 := Lib.hid hW3
  clear hW3
  generalize DR.bel s 2 = k0 at *
  generalize DR.bel (DR.nxt s) 60 = k1 at *
  generalize DR.bel (DR.nxt (DR.nxt s)) 1048576 = k2 at *
  clear h
  subst hW0
  go_enter Try.func38, Try.ntmps38
  go_wp2_with fail
  refine hB0.out.mono ?_
  rintro e w1 ⟨rfl, hw1⟩
  subst hw1
  go_wp2_with fail
  refine hB1.out.mono ?_
  rintro e w2 ⟨rfl, hw2⟩
  subst hw2
  go_wp2_with fail
  refine hB2.out.mono ?_
  rintro e w3 ⟨rfl, hw3⟩
  subst hw3
  obtain ⟨fa00, fa01, fa02, fa03, fa04, fa05, fa06, fa07⟩ := hx3.fs
  obtain ⟨ca00, ca01, ca02, ca03, ca04, ca05, ca06, ca07⟩ := hx3.cs
  have hy0 := hx3.setN (k0)
  have hz0 := hr3.grown (grown_setCell w3 w.heap.size 3 (.int .i64 (k0))) (by omega)
  have he0 := Drawer.keep hd3 (b := w.heap.size) (by omega) 3 (.int .i64 (k0))
  have hf0 := grown_keep hg3 (b := w.heap.size) (Nat.le_refl _) 3 (.int .i64 (k0))
  obtain ⟨fa10, fa11, fa12, fa13, fa14, fa15, fa16, fa17⟩ := hy0.fs
  obtain ⟨ca10, ca11, ca12, ca13, ca14, ca15, ca16, ca17⟩ := hy0.cs
  have hy1 := hy0.setA (k1)
  have hz1 := hz0.grown (grown_setCell (w3.setCell ⟨w.heap.size, 3, none⟩ (.int .i64 (k0))) w.heap.size 4 (.int .i64 (k1))) (by omega)
  have he1 := Drawer.keep he0 (b := w.heap.size) (by omega) 4 (.int .i64 (k1))
  have hf1 := grown_keep hf0 (b := w.heap.size) (Nat.le_refl _) 4 (.int .i64 (k1))
  obtain ⟨fa20, fa21, fa22, fa23, fa24, fa25, fa26, fa27⟩ := hy1.fs
  obtain ⟨ca20, ca21, ca22, ca23, ca24, ca25, ca26, ca27⟩ := hy1.cs
  have hy2 := hy1.setM (1 + k2)
  have hz2 := hz1.grown (grown_setCell ((w3.setCell ⟨w.heap.size, 3, none⟩ (.int .i64 (k0))).setCell ⟨w.heap.size, 4, none⟩ (.int .i64 (k1))) w.heap.size 5 (.int .i64 (1 + k2))) (by omega)
  have he2 := Drawer.keep he1 (b := w.heap.size) (by omega) 5 (.int .i64 (1 + k2))
  have hf2 := grown_keep hf1 (b := w.heap.size) (Nat.le_refl _) 5 (.int .i64 (1 + k2))
  obtain ⟨c0, c1, c2, c3, c4, c5, c6, c7⟩ := hy2.cs
  obtain ⟨q0, q1, q2, q3, q4, q5, q6, q7⟩ := hz2.cs
  obtain ⟨e0, e1, e2, e3, e4, e5, e6, e7⟩ := hz2.fs
  have HT := Lib.hid (OpAt.all hz2 7 p t (k0) (k1) (1 + k2) pa da)
  have HE := Lib.hid (num_end he2 hf2 (b := w.heap.size + 1) (by omega) (by omega) (.int .i64 7) (.int .i64 p) (.int .i64 t) (.int .i64 (k0)) (.int .i64 (k1)) (.int .i64 (1 + k2)) (.string pa) (.string da))
  clear hx3 hr3 hd3 hg3 hy0 hz0 he0 hf0 hy1 hz1 he1 hf1 hy2 hz2 he2 hf2
  go_wp2_with fail
  refine bodyPost_ret (results_cell_row rfl _ _ (w.heap.size + 1) _ _ _ _ rfl HT.out Try.underlying43 rfl (by kernel_rfl)) rfl ?_
  exact ⟨rfl, HE.out.1, HE.out.2⟩
end Go.Proofs.Ytcnjklbmlplehaa
