/- What tally's Same answers. -/
import Derived.Test.YtmdeepdediafbaaTallyCountsWalk
import Derived.Test.YtmdeepdediafbaaIntRows
namespace Go.Proofs.Ytmdeepdediafbaa
open Go.RowKit

/-- A piece of a tally's numbers. -/
def rowOf (x : Nat → Int) (o n : Nat) : List Value := (List.range n).map fun i => .int .i64 (x (o + i))
theorem rowOf_length (x : Nat → Int) (o n : Nat) : (rowOf x o n).length = n := by simp [rowOf]
theorem rowOf_at (x : Nat → Int) (o : Nat) {n j : Nat} (h : j < n) : (rowOf x o n).toArray[j]? = some (.int .i64 (x (o + j))) := by
  rw [List.getElem?_toArray]; simp [rowOf, h]
theorem row_range {w : World} {T : Nat} {x : Nat → Int} {g : Value} (h : w.rangeAt T 0 (tallyCells x g)) (o n : Nat) (hn : o + n ≤ 44) : w.rangeAt T o (rowOf x o n) := fun j v hv => by
  have hj : j < n := by have := (List.getElem?_eq_some_iff.1 hv).1; rw [rowOf_length] at this; exact this
  have := rowOf_at x o hj
  rw [List.getElem?_toArray, hv] at this
  rw [this]
  have := h (o + j) _ (tallyCells_num x g (o + j) (by omega))
  rw [Nat.zero_add] at this
  exact this
theorem info_row13 (x : Nat → Int) (o : Nat) : (Try.prog.info? 24).map (·.size) = some (rowOf x o 13).length := by rw [rowOf_length]; kernel_rfl
theorem info_row17 (x : Nat → Int) (o : Nat) : (Try.prog.info? 25).map (·.size) = some (rowOf x o 17).length := by rw [rowOf_length]; kernel_rfl

/-- Are two tallies the same? -/
def sameT (x : Nat → Int) (G : List Dot) (y : Nat → Int) (H : List Dot) : Bool :=
  (x 0 == y 0) && (eqRows (fun j => x (1 + j)) (fun j => y (1 + j)) 13 && (eqRows (fun j => x (14 + j)) (fun j => y (14 + j)) 13 && (eqRows (fun j => x (27 + j)) (fun j => y (27 + j)) 17 && decide (G = H))))

set_option maxRecDepth 100000 in
set_option maxHeartbeats 4000000 in
theorem tally_same (x y : Nat → Int) (g h : Value) (G H : List Dot) (w : World) (hg : DotsV w g G) (hh : DotsV w h H) :
    Calls Try.prog 13 #[.agg (tallyCells x g).toArray, .agg (tallyCells y h).toArray] w fun e w' => e = .returned (.bool (sameT x G y H)) ∧ Ext w w' := by
  obtain ⟨i3, hi3⟩ : ∃ i, Try.prog.info? 3 = some i := Option.isSome_iff_exists.1 (by kernel_rfl)
  have hc3 : Try.prog.cellsOf 3 = 1 := by kernel_rfl
  have hE : Ext w ((w.alloc (.cells (tallyCells x g).toArray 28)).alloc (.cells (tallyCells y h).toArray 28)) := ((Ext.refl w).alloc _).alloc _
  have r1 : ((w.alloc (.cells (tallyCells x g).toArray 28)).alloc (.cells (tallyCells y h).toArray 28)).rangeAt w.heap.size 0 (tallyCells x g) := by
    refine World.rangeAt_alloc ?_ _
    intro j v hv
    rw [Nat.zero_add, alloc_cell, List.getElem?_toArray]; exact hv
  have r2 : ((w.alloc (.cells (tallyCells x g).toArray 28)).alloc (.cells (tallyCells y h).toArray 28)).rangeAt (w.heap.size + 1) 0 (tallyCells y h) := by
    intro j v hv
    have := alloc_cell (w.alloc (.cells (tallyCells x g).toArray 28)) (tallyCells y h).toArray 28 j
    rw [World.size_alloc] at this
    rw [Nat.zero_add, this, List.getElem?_toArray]; exact hv
  have a0 := r1 0 _ (tallyCells_num x g 0 (by omega))
  have b0 := r2 0 _ (tallyCells_num y h 0 (by omega))
  have a44 := r1 44 _ (tallyCells_giv x g)
  have b44 := r2 44 _ (tallyCells_giv y h)
  simp only [Nat.zero_add] at a0 b0 a44 b44
  have hs := vec_same g h G H _ (hg.ext hE) (hh.ext hE)
  have hgc : ∃ p n c, g = .slice p n c := by obtain ⟨p, c, e, _⟩ := hg; exact ⟨p, _, c, e⟩
  have hhc : ∃ p n c, h = .slice p n c := by obtain ⟨p, c, e, _⟩ := hh; exact ⟨p, _, c, e⟩
  obtain ⟨bR, hbR⟩ : ∃ b, sameT x G y H = b := ⟨_, rfl⟩
  rw [hbR]
  have HSV := Lib.hid hs
  clear hs hg hh
  unfold sameT at hbR
  cases f0 : (x 0 == y 0) with
  | false =>
    rw [f0] at hbR
    have hb : false = bR := by simpa using hbR
    subst hb
    clear hbR
    go_enter Try.func13, Try.ntmps13
    go_wp2_with (first | ((with_reducible refine load_mid_gd 24 11 w.heap.size 1 (rowOf x 1 13) _ ?_ ?_ (row_range r1 1 13 (by omega)) Try.underlying24 ?_ ?_ ?_); rfl; rfl; rfl; exact info_row13 _ _; skip) | ((with_reducible refine load_mid_gd 24 13 (w.heap.size + 1) 1 (rowOf y 1 13) _ ?_ ?_ (row_range r2 1 13 (by omega)) Try.underlying24 ?_ ?_ ?_); rfl; rfl; rfl; exact info_row13 _ _; skip) | ((with_reducible refine load_mid_gd 24 18 w.heap.size 14 (rowOf x 14 13) _ ?_ ?_ (row_range r1 14 13 (by omega)) Try.underlying24 ?_ ?_ ?_); rfl; rfl; rfl; exact info_row13 _ _; skip) | ((with_reducible refine load_mid_gd 24 20 (w.heap.size + 1) 14 (rowOf y 14 13) _ ?_ ?_ (row_range r2 14 13 (by omega)) Try.underlying24 ?_ ?_ ?_); rfl; rfl; rfl; exact info_row13 _ _; skip) | ((with_reducible refine load_mid_gd 25 25 w.heap.size 27 (rowOf x 27 17) _ ?_ ?_ (row_range r1 27 17 (by omega)) Try.underlying25 ?_ ?_ ?_); rfl; rfl; rfl; exact info_row17 _ _; skip) | ((with_reducible refine load_mid_gd 25 27 (w.heap.size + 1) 27 (rowOf y 27 17) _ ?_ ?_ (row_range r2 27 17 (by omega)) Try.underlying25 ?_ ?_ ?_); rfl; rfl; rfl; exact info_row17 _ _; skip) | ((with_reducible refine eql_rows_gd 12 14 ?_ (rowOf x 1 13).toArray (rowOf y 1 13).toArray ?_ ?_ Try.underlying24 Try.underlying3 hi3 hc3 ?_ (fun j => x (1 + j)) (fun j => y (1 + j)) ?_ ?_ ?_); rfl; rfl; rfl; kernel_rfl; exact fun j hj => rowOf_at x 1 hj; exact fun j hj => rowOf_at y 1 hj; skip) | ((with_reducible refine eql_rows_gd 19 21 ?_ (rowOf x 14 13).toArray (rowOf y 14 13).toArray ?_ ?_ Try.underlying24 Try.underlying3 hi3 hc3 ?_ (fun j => x (14 + j)) (fun j => y (14 + j)) ?_ ?_ ?_); rfl; rfl; rfl; kernel_rfl; exact fun j hj => rowOf_at x 14 hj; exact fun j hj => rowOf_at y 14 hj; skip) | ((with_reducible refine eql_rows_gd 26 28 ?_ (rowOf x 27 17).toArray (rowOf y 27 17).toArray ?_ ?_ Try.underlying25 Try.underlying3 hi3 hc3 ?_ (fun j => x (27 + j)) (fun j => y (27 + j)) ?_ ?_ ?_); rfl; rfl; rfl; kernel_rfl; exact fun j hj => rowOf_at x 27 hj; exact fun j hj => rowOf_at y 27 hj; skip))
    go_ret
    exact ⟨rfl, hE⟩
  | true =>
    rw [f0] at hbR
    cases f1 : eqRows (fun j => x (1 + j)) (fun j => y (1 + j)) 13 with
    | false =>
      rw [f1] at hbR
      have hb : false = bR := by simpa using hbR
      subst hb
      clear hbR
      go_enter Try.func13, Try.ntmps13
      go_wp2_with (first | ((with_reducible refine load_mid_gd 24 11 w.heap.size 1 (rowOf x 1 13) _ ?_ ?_ (row_range r1 1 13 (by omega)) Try.underlying24 ?_ ?_ ?_); rfl; rfl; rfl; exact info_row13 _ _; skip) | ((with_reducible refine load_mid_gd 24 13 (w.heap.size + 1) 1 (rowOf y 1 13) _ ?_ ?_ (row_range r2 1 13 (by omega)) Try.underlying24 ?_ ?_ ?_); rfl; rfl; rfl; exact info_row13 _ _; skip) | ((with_reducible refine load_mid_gd 24 18 w.heap.size 14 (rowOf x 14 13) _ ?_ ?_ (row_range r1 14 13 (by omega)) Try.underlying24 ?_ ?_ ?_); rfl; rfl; rfl; exact info_row13 _ _; skip) | ((with_reducible refine load_mid_gd 24 20 (w.heap.size + 1) 14 (rowOf y 14 13) _ ?_ ?_ (row_range r2 14 13 (by omega)) Try.underlying24 ?_ ?_ ?_); rfl; rfl; rfl; exact info_row13 _ _; skip) | ((with_reducible refine load_mid_gd 25 25 w.heap.size 27 (rowOf x 27 17) _ ?_ ?_ (row_range r1 27 17 (by omega)) Try.underlying25 ?_ ?_ ?_); rfl; rfl; rfl; exact info_row17 _ _; skip) | ((with_reducible refine load_mid_gd 25 27 (w.heap.size + 1) 27 (rowOf y 27 17) _ ?_ ?_ (row_range r2 27 17 (by omega)) Try.underlying25 ?_ ?_ ?_); rfl; rfl; rfl; exact info_row17 _ _; skip) | ((with_reducible refine eql_rows_gd 12 14 ?_ (rowOf x 1 13).toArray (rowOf y 1 13).toArray ?_ ?_ Try.underlying24 Try.underlying3 hi3 hc3 ?_ (fun j => x (1 + j)) (fun j => y (1 + j)) ?_ ?_ ?_); rfl; rfl; rfl; kernel_rfl; exact fun j hj => rowOf_at x 1 hj; exact fun j hj => rowOf_at y 1 hj; skip) | ((with_reducible refine eql_rows_gd 19 21 ?_ (rowOf x 14 13).toArray (rowOf y 14 13).toArray ?_ ?_ Try.underlying24 Try.underlying3 hi3 hc3 ?_ (fun j => x (14 + j)) (fun j => y (14 + j)) ?_ ?_ ?_); rfl; rfl; rfl; kernel_rfl; exact fun j hj => rowOf_at x 14 hj; exact fun j hj => rowOf_at y 14 hj; skip) | ((with_reducible refine eql_rows_gd 26 28 ?_ (rowOf x 27 17).toArray (rowOf y 27 17).toArray ?_ ?_ Try.underlying25 Try.underlying3 hi3 hc3 ?_ (fun j => x (27 + j)) (fun j => y (27 + j)) ?_ ?_ ?_); rfl; rfl; rfl; kernel_rfl; exact fun j hj => rowOf_at x 27 hj; exact fun j hj => rowOf_at y 27 hj; skip))
      go_ret
      exact ⟨rfl, hE⟩
    | true =>
      rw [f1] at hbR
      cases f2 : eqRows (fun j => x (14 + j)) (fun j => y (14 + j)) 13 with
      | false =>
        rw [f2] at hbR
        have hb : false = bR := by simpa using hbR
        subst hb
        clear hbR
        go_enter Try.func13, Try.ntmps13
        go_wp2_with (first | ((with_reducible refine load_mid_gd 24 11 w.heap.size 1 (rowOf x 1 13) _ ?_ ?_ (row_range r1 1 13 (by omega)) Try.underlying24 ?_ ?_ ?_); rfl; rfl; rfl; exact info_row13 _ _; skip) | ((with_reducible refine load_mid_gd 24 13 (w.heap.size + 1) 1 (rowOf y 1 13) _ ?_ ?_ (row_range r2 1 13 (by omega)) Try.underlying24 ?_ ?_ ?_); rfl; rfl; rfl; exact info_row13 _ _; skip) | ((with_reducible refine load_mid_gd 24 18 w.heap.size 14 (rowOf x 14 13) _ ?_ ?_ (row_range r1 14 13 (by omega)) Try.underlying24 ?_ ?_ ?_); rfl; rfl; rfl; exact info_row13 _ _; skip) | ((with_reducible refine load_mid_gd 24 20 (w.heap.size + 1) 14 (rowOf y 14 13) _ ?_ ?_ (row_range r2 14 13 (by omega)) Try.underlying24 ?_ ?_ ?_); rfl; rfl; rfl; exact info_row13 _ _; skip) | ((with_reducible refine load_mid_gd 25 25 w.heap.size 27 (rowOf x 27 17) _ ?_ ?_ (row_range r1 27 17 (by omega)) Try.underlying25 ?_ ?_ ?_); rfl; rfl; rfl; exact info_row17 _ _; skip) | ((with_reducible refine load_mid_gd 25 27 (w.heap.size + 1) 27 (rowOf y 27 17) _ ?_ ?_ (row_range r2 27 17 (by omega)) Try.underlying25 ?_ ?_ ?_); rfl; rfl; rfl; exact info_row17 _ _; skip) | ((with_reducible refine eql_rows_gd 12 14 ?_ (rowOf x 1 13).toArray (rowOf y 1 13).toArray ?_ ?_ Try.underlying24 Try.underlying3 hi3 hc3 ?_ (fun j => x (1 + j)) (fun j => y (1 + j)) ?_ ?_ ?_); rfl; rfl; rfl; kernel_rfl; exact fun j hj => rowOf_at x 1 hj; exact fun j hj => rowOf_at y 1 hj; skip) | ((with_reducible refine eql_rows_gd 19 21 ?_ (rowOf x 14 13).toArray (rowOf y 14 13).toArray ?_ ?_ Try.underlying24 Try.underlying3 hi3 hc3 ?_ (fun j => x (14 + j)) (fun j => y (14 + j)) ?_ ?_ ?_); rfl; rfl; rfl; kernel_rfl; exact fun j hj => rowOf_at x 14 hj; exact fun j hj => rowOf_at y 14 hj; skip) | ((with_reducible refine eql_rows_gd 26 28 ?_ (rowOf x 27 17).toArray (rowOf y 27 17).toArray ?_ ?_ Try.underlying25 Try.underlying3 hi3 hc3 ?_ (fun j => x (27 + j)) (fun j => y (27 + j)) ?_ ?_ ?_); rfl; rfl; rfl; kernel_rfl; exact fun j hj => rowOf_at x 27 hj; exact fun j hj => rowOf_at y 27 hj; skip))
        go_ret
        exact ⟨rfl, hE⟩
      | true =>
        rw [f2] at hbR
        cases f3 : eqRows (fun j => x (27 + j)) (fun j => y (27 + j)) 17 with
        | false =>
          rw [f3] at hbR
          have hb : false = bR := by simpa using hbR
          subst hb
          clear hbR
          go_enter Try.func13, Try.ntmps13
          go_wp2_with (first | ((with_reducible refine load_mid_gd 24 11 w.heap.size 1 (rowOf x 1 13) _ ?_ ?_ (row_range r1 1 13 (by omega)) Try.underlying24 ?_ ?_ ?_); rfl; rfl; rfl; exact info_row13 _ _; skip) | ((with_reducible refine load_mid_gd 24 13 (w.heap.size + 1) 1 (rowOf y 1 13) _ ?_ ?_ (row_range r2 1 13 (by omega)) Try.underlying24 ?_ ?_ ?_); rfl; rfl; rfl; exact info_row13 _ _; skip) | ((with_reducible refine load_mid_gd 24 18 w.heap.size 14 (rowOf x 14 13) _ ?_ ?_ (row_range r1 14 13 (by omega)) Try.underlying24 ?_ ?_ ?_); rfl; rfl; rfl; exact info_row13 _ _; skip) | ((with_reducible refine load_mid_gd 24 20 (w.heap.size + 1) 14 (rowOf y 14 13) _ ?_ ?_ (row_range r2 14 13 (by omega)) Try.underlying24 ?_ ?_ ?_); rfl; rfl; rfl; exact info_row13 _ _; skip) | ((with_reducible refine load_mid_gd 25 25 w.heap.size 27 (rowOf x 27 17) _ ?_ ?_ (row_range r1 27 17 (by omega)) Try.underlying25 ?_ ?_ ?_); rfl; rfl; rfl; exact info_row17 _ _; skip) | ((with_reducible refine load_mid_gd 25 27 (w.heap.size + 1) 27 (rowOf y 27 17) _ ?_ ?_ (row_range r2 27 17 (by omega)) Try.underlying25 ?_ ?_ ?_); rfl; rfl; rfl; exact info_row17 _ _; skip) | ((with_reducible refine eql_rows_gd 12 14 ?_ (rowOf x 1 13).toArray (rowOf y 1 13).toArray ?_ ?_ Try.underlying24 Try.underlying3 hi3 hc3 ?_ (fun j => x (1 + j)) (fun j => y (1 + j)) ?_ ?_ ?_); rfl; rfl; rfl; kernel_rfl; exact fun j hj => rowOf_at x 1 hj; exact fun j hj => rowOf_at y 1 hj; skip) | ((with_reducible refine eql_rows_gd 19 21 ?_ (rowOf x 14 13).toArray (rowOf y 14 13).toArray ?_ ?_ Try.underlying24 Try.underlying3 hi3 hc3 ?_ (fun j => x (14 + j)) (fun j => y (14 + j)) ?_ ?_ ?_); rfl; rfl; rfl; kernel_rfl; exact fun j hj => rowOf_at x 14 hj; exact fun j hj => rowOf_at y 14 hj; skip) | ((with_reducible refine eql_rows_gd 26 28 ?_ (rowOf x 27 17).toArray (rowOf y 27 17).toArray ?_ ?_ Try.underlying25 Try.underlying3 hi3 hc3 ?_ (fun j => x (27 + j)) (fun j => y (27 + j)) ?_ ?_ ?_); rfl; rfl; rfl; kernel_rfl; exact fun j hj => rowOf_at x 27 hj; exact fun j hj => rowOf_at y 27 hj; skip))
          go_ret
          exact ⟨rfl, hE⟩
        | true =>
          rw [f3] at hbR
          have hb : decide (G = H) = bR := by simpa using hbR
          have HB := Lib.hid hb
          clear hb hbR
          go_enter Try.func13, Try.ntmps13
          go_wp2_with (first | ((with_reducible refine load_mid_gd 24 11 w.heap.size 1 (rowOf x 1 13) _ ?_ ?_ (row_range r1 1 13 (by omega)) Try.underlying24 ?_ ?_ ?_); rfl; rfl; rfl; exact info_row13 _ _; skip) | ((with_reducible refine load_mid_gd 24 13 (w.heap.size + 1) 1 (rowOf y 1 13) _ ?_ ?_ (row_range r2 1 13 (by omega)) Try.underlying24 ?_ ?_ ?_); rfl; rfl; rfl; exact info_row13 _ _; skip) | ((with_reducible refine load_mid_gd 24 18 w.heap.size 14 (rowOf x 14 13) _ ?_ ?_ (row_range r1 14 13 (by omega)) Try.underlying24 ?_ ?_ ?_); rfl; rfl; rfl; exact info_row13 _ _; skip) | ((with_reducible refine load_mid_gd 24 20 (w.heap.size + 1) 14 (rowOf y 14 13) _ ?_ ?_ (row_range r2 14 13 (by omega)) Try.underlying24 ?_ ?_ ?_); rfl; rfl; rfl; exact info_row13 _ _; skip) | ((with_reducible refine load_mid_gd 25 25 w.heap.size 27 (rowOf x 27 17) _ ?_ ?_ (row_range r1 27 17 (by omega)) Try.underlying25 ?_ ?_ ?_); rfl; rfl; rfl; exact info_row17 _ _; skip) | ((with_reducible refine load_mid_gd 25 27 (w.heap.size + 1) 27 (rowOf y 27 17) _ ?_ ?_ (row_range r2 27 17 (by omega)) Try.underlying25 ?_ ?_ ?_); rfl; rfl; rfl; exact info_row17 _ _; skip) | ((with_reducible refine eql_rows_gd 12 14 ?_ (rowOf x 1 13).toArray (rowOf y 1 13).toArray ?_ ?_ Try.underlying24 Try.underlying3 hi3 hc3 ?_ (fun j => x (1 + j)) (fun j => y (1 + j)) ?_ ?_ ?_); rfl; rfl; rfl; kernel_rfl; exact fun j hj => rowOf_at x 1 hj; exact fun j hj => rowOf_at y 1 hj; skip) | ((with_reducible refine eql_rows_gd 19 21 ?_ (rowOf x 14 13).toArray (rowOf y 14 13).toArray ?_ ?_ Try.underlying24 Try.underlying3 hi3 hc3 ?_ (fun j => x (14 + j)) (fun j => y (14 + j)) ?_ ?_ ?_); rfl; rfl; rfl; kernel_rfl; exact fun j hj => rowOf_at x 14 hj; exact fun j hj => rowOf_at y 14 hj; skip) | ((with_reducible refine eql_rows_gd 26 28 ?_ (rowOf x 27 17).toArray (rowOf y 27 17).toArray ?_ ?_ Try.underlying25 Try.underlying3 hi3 hc3 ?_ (fun j => x (27 + j)) (fun j => y (27 + j)) ?_ ?_ ?_); rfl; rfl; rfl; kernel_rfl; exact fun j hj => rowOf_at x 27 hj; exact fun j hj => rowOf_at y 27 hj; skip))
          refine HSV.out.mono ?_
          rintro e w2 ⟨rfl, g2⟩
          rw [HB.out]
          go_wp2
          go_ret
          exact ⟨rfl, hE.trans g2⟩

end Go.Proofs.Ytmdeepdediafbaa
