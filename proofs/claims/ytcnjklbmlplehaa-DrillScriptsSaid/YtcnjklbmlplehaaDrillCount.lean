/- How many operations there are of each kind: the program's. -/
import Derived.Test.YtcnjklbmlplehaaOpsFns
namespace Go.Proofs.Ytcnjklbmlplehaa
open Go.RowKit

/-- Thirteen counts in a block. -/
def KAt (W : World) (b : Nat) (l : List Int) : Prop := W.heap[b]? = some (.cells (intCells l).toArray 25 (0, 0))
theorem KAt.cell {W : World} {b : Nat} {l : List Int} (h : KAt W b l) (i : Nat) : W.cell? ⟨b, i, none⟩ = (l[i]?).map (Value.int .i64) := by
  rw [(cell_row h).1]
  unfold intCells
  simp
theorem KAt.get {W : World} {b : Nat} {l : List Int} (h : KAt W b l) {i : Nat} {x : Int} (hx : l[i]? = some x) : W.cell? ⟨b, i, none⟩ = some (.int .i64 x) := by
  rw [h.cell, hx]
  rfl
theorem KAt.f {W : World} {b : Nat} {l : List Int} (h : KAt W b l) (i : Nat) : W.frozen? ⟨b, i, none⟩ = false := (cell_row h (i := i)).2
theorem KAt.lt {W : World} {b : Nat} {l : List Int} (h : KAt W b l) : b < W.heap.size := (Array.getElem?_eq_some_iff.1 h).1
theorem KAt.ext {W W' : World} {b : Nat} {l : List Int} (h : KAt W b l) (he : Ext W W') : KAt W' b l := (he.block h.lt).trans h
theorem KAt.set {W : World} {b : Nat} {l : List Int} (h : KAt W b l) (i : Nat) (x : Int) : KAt (W.setCell ⟨b, i, none⟩ (.int .i64 x)) b (l.set i x) := by
  have := heap_setCell_eq h i (.int .i64 x)
  unfold KAt
  rw [this]
  congr 2
  unfold intCells
  simp
theorem KAt.grown {W W' : World} {b k : Nat} {l : List Int} (h : KAt W b l) (hg : W.grownBy W' (some k)) (hne : b ≠ k) : KAt W' b l := (hg.block b h.lt (by intro e; injection e with e; exact hne e)).trans h
def zeros13 : List Int := [0, 0, 0, 0, 0, 0, 0, 0, 0, 0, 0, 0, 0]

/- ALL -/
theorem KAt.all {W : World} {b : Nat} (h : KAt W b zeros13) (x0 x1 x2 x3 x4 x5 x6 x7 x8 x9 x10 x11 x12 : Int) :
    KAt (((((((((((((W.setCell ⟨b, 0, none⟩ (.int .i64 x0)).setCell ⟨b, 1, none⟩ (.int .i64 x1)).setCell ⟨b, 2, none⟩ (.int .i64 x2)).setCell ⟨b, 3, none⟩ (.int .i64 x3)).setCell ⟨b, 4, none⟩ (.int .i64 x4)).setCell ⟨b, 5, none⟩ (.int .i64 x5)).setCell ⟨b, 6, none⟩ (.int .i64 x6)).setCell ⟨b, 7, none⟩ (.int .i64 x7)).setCell ⟨b, 8, none⟩ (.int .i64 x8)).setCell ⟨b, 9, none⟩ (.int .i64 x9)).setCell ⟨b, 10, none⟩ (.int .i64 x10)).setCell ⟨b, 11, none⟩ (.int .i64 x11)).setCell ⟨b, 12, none⟩ (.int .i64 x12)) b [x0, x1, x2, x3, x4, x5, x6, x7, x8, x9, x10, x11, x12] := by
  have h0 : KAt (W.setCell ⟨b, 0, none⟩ (.int .i64 x0)) b [x0, 0, 0, 0, 0, 0, 0, 0, 0, 0, 0, 0, 0] := KAt.set h 0 x0
  have h1 : KAt ((W.setCell ⟨b, 0, none⟩ (.int .i64 x0)).setCell ⟨b, 1, none⟩ (.int .i64 x1)) b [x0, x1, 0, 0, 0, 0, 0, 0, 0, 0, 0, 0, 0] := KAt.set h0 1 x1
  have h2 : KAt (((W.setCell ⟨b, 0, none⟩ (.int .i64 x0)).setCell ⟨b, 1, none⟩ (.int .i64 x1)).setCell ⟨b, 2, none⟩ (.int .i64 x2)) b [x0, x1, x2, 0, 0, 0, 0, 0, 0, 0, 0, 0, 0] := KAt.set h1 2 x2
  have h3 : KAt ((((W.setCell ⟨b, 0, none⟩ (.int .i64 x0)).setCell ⟨b, 1, none⟩ (.int .i64 x1)).setCell ⟨b, 2, none⟩ (.int .i64 x2)).setCell ⟨b, 3, none⟩ (.int .i64 x3)) b [x0, x1, x2, x3, 0, 0, 0, 0, 0, 0, 0, 0, 0] := KAt.set h2 3 x3
  have h4 : KAt (((((W.setCell ⟨b, 0, none⟩ (.int .i64 x0)).setCell ⟨b, 1, none⟩ (.int .i64 x1)).setCell ⟨b, 2, none⟩ (.int .i64 x2)).setCell ⟨b, 3, none⟩ (.int .i64 x3)).setCell ⟨b, 4, none⟩ (.int .i64 x4)) b [x0, x1, x2, x3, x4, 0, 0, 0, 0, 0, 0, 0, 0] := KAt.set h3 4 x4
  have h5 : KAt ((((((W.setCell ⟨b, 0, none⟩ (.int .i64 x0)).setCell ⟨b, 1, none⟩ (.int .i64 x1)).setCell ⟨b, 2, none⟩ (.int .i64 x2)).setCell ⟨b, 3, none⟩ (.int .i64 x3)).setCell ⟨b, 4, none⟩ (.int .i64 x4)).setCell ⟨b, 5, none⟩ (.int .i64 x5)) b [x0, x1, x2, x3, x4, x5, 0, 0, 0, 0, 0, 0, 0] := KAt.set h4 5 x5
  have h6 : KAt (((((((W.setCell ⟨b, 0, none⟩ (.int .i64 x0)).setCell ⟨b, 1, none⟩ (.int .i64 x1)).setCell ⟨b, 2, none⟩ (.int .i64 x2)).setCell ⟨b, 3, none⟩ (.int .i64 x3)).setCell ⟨b, 4, none⟩ (.int .i64 x4)).setCell ⟨b, 5, none⟩ (.int .i64 x5)).setCell ⟨b, 6, none⟩ (.int .i64 x6)) b [x0, x1, x2, x3, x4, x5, x6, 0, 0, 0, 0, 0, 0] := KAt.set h5 6 x6
  have h7 : KAt ((((((((W.setCell ⟨b, 0, none⟩ (.int .i64 x0)).setCell ⟨b, 1, none⟩ (.int .i64 x1)).setCell ⟨b, 2, none⟩ (.int .i64 x2)).setCell ⟨b, 3, none⟩ (.int .i64 x3)).setCell ⟨b, 4, none⟩ (.int .i64 x4)).setCell ⟨b, 5, none⟩ (.int .i64 x5)).setCell ⟨b, 6, none⟩ (.int .i64 x6)).setCell ⟨b, 7, none⟩ (.int .i64 x7)) b [x0, x1, x2, x3, x4, x5, x6, x7, 0, 0, 0, 0, 0] := KAt.set h6 7 x7
  have h8 : KAt (((((((((W.setCell ⟨b, 0, none⟩ (.int .i64 x0)).setCell ⟨b, 1, none⟩ (.int .i64 x1)).setCell ⟨b, 2, none⟩ (.int .i64 x2)).setCell ⟨b, 3, none⟩ (.int .i64 x3)).setCell ⟨b, 4, none⟩ (.int .i64 x4)).setCell ⟨b, 5, none⟩ (.int .i64 x5)).setCell ⟨b, 6, none⟩ (.int .i64 x6)).setCell ⟨b, 7, none⟩ (.int .i64 x7)).setCell ⟨b, 8, none⟩ (.int .i64 x8)) b [x0, x1, x2, x3, x4, x5, x6, x7, x8, 0, 0, 0, 0] := KAt.set h7 8 x8
  have h9 : KAt ((((((((((W.setCell ⟨b, 0, none⟩ (.int .i64 x0)).setCell ⟨b, 1, none⟩ (.int .i64 x1)).setCell ⟨b, 2, none⟩ (.int .i64 x2)).setCell ⟨b, 3, none⟩ (.int .i64 x3)).setCell ⟨b, 4, none⟩ (.int .i64 x4)).setCell ⟨b, 5, none⟩ (.int .i64 x5)).setCell ⟨b, 6, none⟩ (.int .i64 x6)).setCell ⟨b, 7, none⟩ (.int .i64 x7)).setCell ⟨b, 8, none⟩ (.int .i64 x8)).setCell ⟨b, 9, none⟩ (.int .i64 x9)) b [x0, x1, x2, x3, x4, x5, x6, x7, x8, x9, 0, 0, 0] := KAt.set h8 9 x9
  have h10 : KAt (((((((((((W.setCell ⟨b, 0, none⟩ (.int .i64 x0)).setCell ⟨b, 1, none⟩ (.int .i64 x1)).setCell ⟨b, 2, none⟩ (.int .i64 x2)).setCell ⟨b, 3, none⟩ (.int .i64 x3)).setCell ⟨b, 4, none⟩ (.int .i64 x4)).setCell ⟨b, 5, none⟩ (.int .i64 x5)).setCell ⟨b, 6, none⟩ (.int .i64 x6)).setCell ⟨b, 7, none⟩ (.int .i64 x7)).setCell ⟨b, 8, none⟩ (.int .i64 x8)).setCell ⟨b, 9, none⟩ (.int .i64 x9)).setCell ⟨b, 10, none⟩ (.int .i64 x10)) b [x0, x1, x2, x3, x4, x5, x6, x7, x8, x9, x10, 0, 0] := KAt.set h9 10 x10
  have h11 : KAt ((((((((((((W.setCell ⟨b, 0, none⟩ (.int .i64 x0)).setCell ⟨b, 1, none⟩ (.int .i64 x1)).setCell ⟨b, 2, none⟩ (.int .i64 x2)).setCell ⟨b, 3, none⟩ (.int .i64 x3)).setCell ⟨b, 4, none⟩ (.int .i64 x4)).setCell ⟨b, 5, none⟩ (.int .i64 x5)).setCell ⟨b, 6, none⟩ (.int .i64 x6)).setCell ⟨b, 7, none⟩ (.int .i64 x7)).setCell ⟨b, 8, none⟩ (.int .i64 x8)).setCell ⟨b, 9, none⟩ (.int .i64 x9)).setCell ⟨b, 10, none⟩ (.int .i64 x10)).setCell ⟨b, 11, none⟩ (.int .i64 x11)) b [x0, x1, x2, x3, x4, x5, x6, x7, x8, x9, x10, x11, 0] := KAt.set h10 11 x11
  have h12 : KAt (((((((((((((W.setCell ⟨b, 0, none⟩ (.int .i64 x0)).setCell ⟨b, 1, none⟩ (.int .i64 x1)).setCell ⟨b, 2, none⟩ (.int .i64 x2)).setCell ⟨b, 3, none⟩ (.int .i64 x3)).setCell ⟨b, 4, none⟩ (.int .i64 x4)).setCell ⟨b, 5, none⟩ (.int .i64 x5)).setCell ⟨b, 6, none⟩ (.int .i64 x6)).setCell ⟨b, 7, none⟩ (.int .i64 x7)).setCell ⟨b, 8, none⟩ (.int .i64 x8)).setCell ⟨b, 9, none⟩ (.int .i64 x9)).setCell ⟨b, 10, none⟩ (.int .i64 x10)).setCell ⟨b, 11, none⟩ (.int .i64 x11)).setCell ⟨b, 12, none⟩ (.int .i64 x12)) b [x0, x1, x2, x3, x4, x5, x6, x7, x8, x9, x10, x11, x12] := KAt.set h11 12 x12
  exact h12
theorem KAt.ends {w W : World} {b : Nat} (hx : Ext w W) (hb : w.heap.size ≤ b) (x0 x1 x2 x3 x4 x5 x6 x7 x8 x9 x10 x11 x12 : Int) : Ext w (((((((((((((W.setCell ⟨b, 0, none⟩ (.int .i64 x0)).setCell ⟨b, 1, none⟩ (.int .i64 x1)).setCell ⟨b, 2, none⟩ (.int .i64 x2)).setCell ⟨b, 3, none⟩ (.int .i64 x3)).setCell ⟨b, 4, none⟩ (.int .i64 x4)).setCell ⟨b, 5, none⟩ (.int .i64 x5)).setCell ⟨b, 6, none⟩ (.int .i64 x6)).setCell ⟨b, 7, none⟩ (.int .i64 x7)).setCell ⟨b, 8, none⟩ (.int .i64 x8)).setCell ⟨b, 9, none⟩ (.int .i64 x9)).setCell ⟨b, 10, none⟩ (.int .i64 x10)).setCell ⟨b, 11, none⟩ (.int .i64 x11)).setCell ⟨b, 12, none⟩ (.int .i64 x12)) :=
  (ext_grownBy (ext_grownBy (ext_grownBy (ext_grownBy (ext_grownBy (ext_grownBy (ext_grownBy (ext_grownBy (ext_grownBy (ext_grownBy (ext_grownBy (ext_grownBy (ext_grownBy hx (grown_setCell _ _ _ _) hb) (grown_setCell _ _ _ _) hb) (grown_setCell _ _ _ _) hb) (grown_setCell _ _ _ _) hb) (grown_setCell _ _ _ _) hb) (grown_setCell _ _ _ _) hb) (grown_setCell _ _ _ _) hb) (grown_setCell _ _ _ _) hb) (grown_setCell _ _ _ _) hb) (grown_setCell _ _ _ _) hb) (grown_setCell _ _ _ _) hb) (grown_setCell _ _ _ _) hb) (grown_setCell _ _ _ _) hb)
theorem KAt.cs {W : World} {b : Nat} {x0 x1 x2 x3 x4 x5 x6 x7 x8 x9 x10 x11 x12 : Int} (h : KAt W b [x0, x1, x2, x3, x4, x5, x6, x7, x8, x9, x10, x11, x12]) : W.cell? ⟨b, 0, none⟩ = some (.int .i64 x0) ∧ W.cell? ⟨b, 1, none⟩ = some (.int .i64 x1) ∧ W.cell? ⟨b, 2, none⟩ = some (.int .i64 x2) ∧ W.cell? ⟨b, 3, none⟩ = some (.int .i64 x3) ∧ W.cell? ⟨b, 4, none⟩ = some (.int .i64 x4) ∧ W.cell? ⟨b, 5, none⟩ = some (.int .i64 x5) ∧ W.cell? ⟨b, 6, none⟩ = some (.int .i64 x6) ∧ W.cell? ⟨b, 7, none⟩ = some (.int .i64 x7) ∧ W.cell? ⟨b, 8, none⟩ = some (.int .i64 x8) ∧ W.cell? ⟨b, 9, none⟩ = some (.int .i64 x9) ∧ W.cell? ⟨b, 10, none⟩ = some (.int .i64 x10) ∧ W.cell? ⟨b, 11, none⟩ = some (.int .i64 x11) ∧ W.cell? ⟨b, 12, none⟩ = some (.int .i64 x12) :=
  ⟨h.get (i := 0) rfl, h.get (i := 1) rfl, h.get (i := 2) rfl, h.get (i := 3) rfl, h.get (i := 4) rfl, h.get (i := 5) rfl, h.get (i := 6) rfl, h.get (i := 7) rfl, h.get (i := 8) rfl, h.get (i := 9) rfl, h.get (i := 10) rfl, h.get (i := 11) rfl, h.get (i := 12) rfl⟩
theorem KAt.fs {W : World} {b : Nat} {l : List Int} (h : KAt W b l) : W.frozen? ⟨b, 0, none⟩ = false ∧ W.frozen? ⟨b, 1, none⟩ = false ∧ W.frozen? ⟨b, 2, none⟩ = false ∧ W.frozen? ⟨b, 3, none⟩ = false ∧ W.frozen? ⟨b, 4, none⟩ = false ∧ W.frozen? ⟨b, 5, none⟩ = false ∧ W.frozen? ⟨b, 6, none⟩ = false ∧ W.frozen? ⟨b, 7, none⟩ = false ∧ W.frozen? ⟨b, 8, none⟩ = false ∧ W.frozen? ⟨b, 9, none⟩ = false ∧ W.frozen? ⟨b, 10, none⟩ = false ∧ W.frozen? ⟨b, 11, none⟩ = false ∧ W.frozen? ⟨b, 12, none⟩ = false :=
  ⟨h.f 0, h.f 1, h.f 2, h.f 3, h.f 4, h.f 5, h.f 6, h.f 7, h.f 8, h.f 9, h.f 10, h.f 11, h.f 12⟩
theorem list13 (l : List Int) (h : l.length = 13) : ∃ x0 x1 x2 x3 x4 x5 x6 x7 x8 x9 x10 x11 x12, l = [x0, x1, x2, x3, x4, x5, x6, x7, x8, x9, x10, x11, x12] := by
  match l, h with
  | [x0, x1, x2, x3, x4, x5, x6, x7, x8, x9, x10, x11, x12], _ => exact ⟨x0, x1, x2, x3, x4, x5, x6, x7, x8, x9, x10, x11, x12, rfl⟩

set_option maxRecDepth 100000 in
set_option maxHeartbeats 2000000 in
theorem drill_kinds (v : Value) (l : List OpV) (w : World) (h : OpsV w v l) (hm : l.length ≤ 100000) :
    Calls Try.prog 8 #[v] w fun e w' => e = .returned (.agg (intCells (DR.counts l)).toArray) ∧ Ext w w' := by
  obtain ⟨p, c, rfl, hat⟩ := h
  obtain ⟨m, hl⟩ : ∃ m, l.length = m := ⟨_, rfl⟩
  rw [hl] at hat hm ⊢
  have HL := Lib.hid hl
  have HAT := Lib.hid hat
  obtain ⟨W0, hW0⟩ : ∃ W, (w.alloc (.cells (intCells zeros13).toArray 25)).alloc (.cells (intCells zeros13).toArray 25) = W := ⟨_, rfl⟩
  have hx0 : Ext w W0 := by rw [← hW0]; exact ((Ext.refl w).alloc _).alloc _
  have hr0 : KAt W0 w.heap.size zeros13 := by rw [← hW0]; exact (heap_alloc_old _ _ (by rw [World.size_alloc]; omega)).trans (heap_alloc_new w _)
  have hk0 : KAt W0 (w.heap.size + 1) zeros13 := by
    rw [← hW0]
    have := heap_alloc_new (w.alloc (.cells (intCells zeros13).toArray 25)) (.cells (intCells zeros13).toArray 25)
    rw [World.size_alloc] at this
    exact this
  have HX0 := Lib.hid hx0
  have HR0 := Lib.hid hr0
  have HK0 := Lib.hid hk0
  clear hat hl hx0 hr0 hk0
  subst hW0
  go_enter Try.func8, Try.ntmps8
  go_wp2
  go_loopw [8] (fun i W => ∃ (k : Nat), k ≤ m ∧ i = .int .i64 k ∧ KAt W w.heap.size zeros13 ∧ KAt W (w.heap.size + 1) (DR.counts (l.take k)) ∧ Ext w W) (fun i _ => m - (intOf i).toNat)
  case atStart => exact ⟨0, by omega, rfl, HR0.out, HK0.out, HX0.out⟩
  case round =>
    clear HX0 HR0 HK0
    obtain ⟨k, hk, rfl, hr, hc, hx⟩ := hrel
    by_cases hlt : k < m
    · have hkl : k < l.length := by rw [HL.out]; exact hlt
      obtain ⟨b, off, rfl, hat⟩ : ∃ b off, p = some ⟨b, off, none⟩ ∧ OpsAt w b off l := by
        rcases HAT.out with h | h
        · omega
        · exact h
      have hat2 := hat.ext hx
      have hnx := take_next l k hkl
      obtain ⟨⟨y0, y1, y2, y3, y4, y5, y6, y7⟩, hy⟩ : ∃ y, l[k] = y := ⟨_, rfl⟩
      obtain ⟨c0, c1, c2, c3, c4, c5, c6, c7⟩ := hat2.cs hkl hy
      rw [hy] at hnx
      clear hat hat2 hy
      have HNX := Lib.hid hnx
      have W1 : Ext wr (wr.alloc (.cells (opCells ⟨y0, y1, y2, y3, y4, y5, y6, y7⟩) 43)) := (Ext.refl wr).alloc _
      have hr1 := hr.ext W1
      have hc1 := hc.ext W1
      have hx1 := hx.trans W1
      have HR1 := Lib.hid hr1
      clear hr hc hx W1 hnx hr1
      by_cases hin : 0 ≤ y0 ∧ y0 < 13
      · obtain ⟨q, rfl⟩ : ∃ q : Nat, y0 = (q : Int) := ⟨y0.toNat, by omega⟩
        have hq : q < 13 := by omega
        have hq1 : (0 : Int) ≤ (q : Int) := by omega
        have hq2 : (q : Int) < 13 := by omega
        have hst := DR.counts_in (l.take k) ⟨q, y1, y2, y3, y4, y5, y6, y7⟩ q rfl hq
        rw [← HNX.out] at hst
        have hg := hc1.get (DR.counts_get (l.take k) q hq)
        have hf := hc1.f q
        have hle := DR.cnt_le (l.take k) (q : Nat)
        rw [List.length_take] at hle
        generalize DR.cnt (l.take k) (q : Nat) = x at *
        have hc2 := hc1.set q ((x : Int) + 1)
        rw [← hst] at hc2
        have HC2 := Lib.hid hc2
        have HR2 := Lib.hid (HR1.out.grown (grown_setCell _ (w.heap.size + 1) q (.int .i64 ((x : Int) + 1))) (by omega))
        have HX2 := Lib.hid (ext_grownBy hx1 (grown_setCell _ (w.heap.size + 1) q (.int .i64 ((x : Int) + 1))) (by omega))
        have hxm : x ≤ m := by omega
        simp only [opCells] at hg hf
        clear hst hc2 hc1 hx1 hle hin
        go_wp2
        go_roundw
        case rel => exact ⟨k + 1, by omega, by go_num, HR2.out, HC2.out, HX2.out⟩
        case measure => simp [intOf]; omega
      · have hst := DR.counts_out (l.take k) ⟨y0, y1, y2, y3, y4, y5, y6, y7⟩ hin
        rw [← HNX.out] at hst
        rw [← hst] at hc1
        have HC1 := Lib.hid hc1
        have HX1 := Lib.hid hx1
        clear hst hc1 hx1
        have hor : y0 < 0 ∨ (0 ≤ y0 ∧ ¬ y0 < 13) := by omega
        clear hin
        rcases hor with h | ⟨h, h2⟩
        · go_wp2
          go_roundw
          case rel => exact ⟨k + 1, by omega, by go_num, HR1.out, HC1.out, HX1.out⟩
          case measure => simp [intOf]; omega
        · go_wp2
          go_roundw
          case rel => exact ⟨k + 1, by omega, by go_num, HR1.out, HC1.out, HX1.out⟩
          case measure => simp [intOf]; omega
    · obtain rfl : k = m := by omega
      rw [List.take_of_length_le (by rw [HL.out]; exact Nat.le_refl _)] at hc
      obtain ⟨x0, x1, x2, x3, x4, x5, x6, x7, x8, x9, x10, x11, x12, hxs⟩ := list13 (DR.counts l) (DR.counts_length l)
      have HXS := Lib.hid hxs
      rw [hxs] at hc
      have HT := Lib.hid (hr.all x0 x1 x2 x3 x4 x5 x6 x7 x8 x9 x10 x11 x12)
      have HE := Lib.hid (KAt.ends hx (Nat.le_refl _) x0 x1 x2 x3 x4 x5 x6 x7 x8 x9 x10 x11 x12)
      obtain ⟨cs0, cs1, cs2, cs3, cs4, cs5, cs6, cs7, cs8, cs9, cs10, cs11, cs12⟩ := hc.cs
      obtain ⟨qs0, qs1, qs2, qs3, qs4, qs5, qs6, qs7, qs8, qs9, qs10, qs11, qs12⟩ := (show KAt wr w.heap.size [0, 0, 0, 0, 0, 0, 0, 0, 0, 0, 0, 0, 0] from hr).cs
      obtain ⟨fs0, fs1, fs2, fs3, fs4, fs5, fs6, fs7, fs8, fs9, fs10, fs11, fs12⟩ := hr.fs
      clear hxs hr hc hx
      go_wp2_with fail
      refine bodyPost_ret (results_cell_row rfl _ _ (w.heap.size) _ _ _ _ rfl HT.out Try.underlying25 rfl (by kernel_rfl)) rfl ?_
      rw [HXS.out]
      exact ⟨rfl, HE.out⟩
end Go.Proofs.Ytcnjklbmlplehaa
