/- What the document's bare and Check of operations answer. -/
import Derived.Test.YtcnjklbmlplehaaDrillOk
import Derived.Test.YtcnjklbmlplehaaQuietG
namespace Go.Proofs.Ytcnjklbmlplehaa
open Go.RowKit

theorem ext_set {w W : World} (h : Ext w W) {b : Nat} (hb : w.heap.size ≤ b) (i : Nat) (v : Value) : Ext w (W.setCell ⟨b, i, none⟩ v) := ext_grownBy h (grown_setCell W b i v) hb
theorem ext_all {w W : World} (h : Ext w W) {b : Nat} (hb : w.heap.size ≤ b) (v0 v1 v2 v3 v4 v5 v6 v7 : Value) :
    Ext w ((((((((W.setCell ⟨b, 0, none⟩ v0).setCell ⟨b, 1, none⟩ v1).setCell ⟨b, 2, none⟩ v2).setCell ⟨b, 3, none⟩ v3).setCell ⟨b, 4, none⟩ v4).setCell ⟨b, 5, none⟩ v5).setCell ⟨b, 6, none⟩ v6).setCell ⟨b, 7, none⟩ v7) :=
  ext_set (ext_set (ext_set (ext_set (ext_set (ext_set (ext_set (ext_set h hb 0 v0) hb 1 v1) hb 2 v2) hb 3 v3) hb 4 v4) hb 5 v5) hb 6 v6) hb 7 v7

set_option maxRecDepth 100000 in
theorem ref_num (n : Int) (w : World) (h0 : 0 ≤ n) (h1 : n ≤ 1073741824) : Calls Try.prog 29 #[.int .i64 n] w fun e w' => e = .returned (.bool true) ∧ w = w' := by
  go_enter Try.func29, Try.ntmps29
  go_wp2
  go_ret
  exact ⟨rfl, rfl⟩

set_option maxRecDepth 100000 in
set_option maxHeartbeats 1000000 in
theorem ref_bare_0 (p : Int) (pa : ByteArray) (da : ByteArray) (w : World) :
    Calls Try.prog 30 #[.agg #[.int .i64 0, .int .i64 p, .int .i64 0, .int .i64 0, .int .i64 0, .int .i64 0, .string pa, .string da]] w
      fun e w' => e = .returned (.agg #[.int .i64 0, .int .i64 p, .int .i64 0, .int .i64 0, .int .i64 0, .int .i64 0, .string ⟨#[]⟩, .string ⟨#[]⟩]) ∧ Ext w w' := by
  obtain ⟨W0, hW0⟩ : ∃ W, ((w.alloc (.cells (opCells ⟨0, p, 0, 0, 0, 0, pa, da⟩) 43)).alloc (.cells (opCells opZero) 43)) = W := ⟨_, rfl⟩
  have he0 : Ext w W0 := by rw [← hW0]; exact ((Ext.refl w).alloc _).alloc _
  have hx0 : OpAt W0 w.heap.size ⟨0, p, 0, 0, 0, 0, pa, da⟩ := by
    rw [← hW0]
    exact (heap_alloc_old _ _ (by rw [World.size_alloc]; omega)).trans (OpAt.new w _)
  have hr0 : OpAt W0 (w.heap.size + 1) opZero := by
    rw [← hW0]
    have := OpAt.new (w.alloc (.cells (opCells ⟨0, p, 0, 0, 0, 0, pa, da⟩) 43)) opZero
    rw [World.size_alloc] at this
    exact this
  have hx1 := hx0.setP ⟨#[]⟩
  have hr1 := hr0.grown (grown_setCell W0 w.heap.size 6 (.string ⟨#[]⟩)) (by omega)
  have he1 := ext_set he0 (b := w.heap.size) (Nat.le_refl _) 6 (.string ⟨#[]⟩)
  obtain ⟨fa00, fa01, fa02, fa03, fa04, fa05, fa06, fa07⟩ := hx0.fs
  obtain ⟨ca00, ca01, ca02, ca03, ca04, ca05, ca06, ca07⟩ := hx0.cs
  have hx2 := hx1.setD ⟨#[]⟩
  have hr2 := hr1.grown (grown_setCell (W0.setCell ⟨w.heap.size, 6, none⟩ (.string ⟨#[]⟩)) w.heap.size 7 (.string ⟨#[]⟩)) (by omega)
  have he2 := ext_set he1 (b := w.heap.size) (Nat.le_refl _) 7 (.string ⟨#[]⟩)
  obtain ⟨fa10, fa11, fa12, fa13, fa14, fa15, fa16, fa17⟩ := hx1.fs
  obtain ⟨ca10, ca11, ca12, ca13, ca14, ca15, ca16, ca17⟩ := hx1.cs
  obtain ⟨c0, c1, c2, c3, c4, c5, c6, c7⟩ := OpAt.cs hx2
  obtain ⟨q0, q1, q2, q3, q4, q5, q6, q7⟩ := OpAt.cs hr2
  obtain ⟨e0, e1, e2, e3, e4, e5, e6, e7⟩ := OpAt.fs hr2
  have HT := Lib.hid (OpAt.all hr2 0 p 0 0 0 0 ⟨#[]⟩ ⟨#[]⟩)
  have HE := Lib.hid (ext_all he2 (b := w.heap.size + 1) (by omega) (.int .i64 0) (.int .i64 p) (.int .i64 0) (.int .i64 0) (.int .i64 0) (.int .i64 0) (.string ⟨#[]⟩) (.string ⟨#[]⟩))
  clear hx0 hr0 he0 hx1 hr1 he1 hx2 hr2 he2
  go_enter Try.func30, Try.ntmps30
  go_upto_region 1 with fail
  have hWl : ((w.alloc (.cells #[.int .i64 0, .int .i64 p, .int .i64 0, .int .i64 0, .int .i64 0, .int .i64 0, .string pa, .string da] 43)).alloc (.cells #[.int .i64 0, .int .i64 0, .int .i64 0, .int .i64 0, .int .i64 0, .int .i64 0, .string ⟨#[]⟩, .string ⟨#[]⟩] 43)) = W0 := hW0
  rw [hWl]
  clear hW0 hWl
  go_wp2_with fail
  refine bodyPost_ret (results_cell_row rfl _ _ (w.heap.size + 1) _ _ _ _ rfl HT.out Try.underlying43 rfl (by kernel_rfl)) rfl ?_
  exact ⟨rfl, HE.out⟩
set_option maxRecDepth 100000 in
set_option maxHeartbeats 1000000 in
theorem ref_bare_1 (p : Int) (pa : ByteArray) (w : World) :
    Calls Try.prog 30 #[.agg #[.int .i64 1, .int .i64 p, .int .i64 0, .int .i64 0, .int .i64 0, .int .i64 0, .string pa, .string ⟨#[]⟩]] w
      fun e w' => e = .returned (.agg #[.int .i64 1, .int .i64 p, .int .i64 0, .int .i64 0, .int .i64 0, .int .i64 0, .string ⟨#[]⟩, .string ⟨#[]⟩]) ∧ Ext w w' := by
  obtain ⟨W0, hW0⟩ : ∃ W, ((w.alloc (.cells (opCells ⟨1, p, 0, 0, 0, 0, pa, ⟨#[]⟩⟩) 43)).alloc (.cells (opCells opZero) 43)) = W := ⟨_, rfl⟩
  have he0 : Ext w W0 := by rw [← hW0]; exact ((Ext.refl w).alloc _).alloc _
  have hx0 : OpAt W0 w.heap.size ⟨1, p, 0, 0, 0, 0, pa, ⟨#[]⟩⟩ := by
    rw [← hW0]
    exact (heap_alloc_old _ _ (by rw [World.size_alloc]; omega)).trans (OpAt.new w _)
  have hr0 : OpAt W0 (w.heap.size + 1) opZero := by
    rw [← hW0]
    have := OpAt.new (w.alloc (.cells (opCells ⟨1, p, 0, 0, 0, 0, pa, ⟨#[]⟩⟩) 43)) opZero
    rw [World.size_alloc] at this
    exact this
  have hx1 := hx0.setP ⟨#[]⟩
  have hr1 := hr0.grown (grown_setCell W0 w.heap.size 6 (.string ⟨#[]⟩)) (by omega)
  have he1 := ext_set he0 (b := w.heap.size) (Nat.le_refl _) 6 (.string ⟨#[]⟩)
  obtain ⟨fa00, fa01, fa02, fa03, fa04, fa05, fa06, fa07⟩ := hx0.fs
  obtain ⟨ca00, ca01, ca02, ca03, ca04, ca05, ca06, ca07⟩ := hx0.cs
  obtain ⟨c0, c1, c2, c3, c4, c5, c6, c7⟩ := OpAt.cs hx1
  obtain ⟨q0, q1, q2, q3, q4, q5, q6, q7⟩ := OpAt.cs hr1
  obtain ⟨e0, e1, e2, e3, e4, e5, e6, e7⟩ := OpAt.fs hr1
  have HT := Lib.hid (OpAt.all hr1 1 p 0 0 0 0 ⟨#[]⟩ ⟨#[]⟩)
  have HE := Lib.hid (ext_all he1 (b := w.heap.size + 1) (by omega) (.int .i64 1) (.int .i64 p) (.int .i64 0) (.int .i64 0) (.int .i64 0) (.int .i64 0) (.string ⟨#[]⟩) (.string ⟨#[]⟩))
  clear hx0 hr0 he0 hx1 hr1 he1
  go_enter Try.func30, Try.ntmps30
  go_upto_region 1 with fail
  have hWl : ((w.alloc (.cells #[.int .i64 1, .int .i64 p, .int .i64 0, .int .i64 0, .int .i64 0, .int .i64 0, .string pa, .string ⟨#[]⟩] 43)).alloc (.cells #[.int .i64 0, .int .i64 0, .int .i64 0, .int .i64 0, .int .i64 0, .int .i64 0, .string ⟨#[]⟩, .string ⟨#[]⟩] 43)) = W0 := hW0
  rw [hWl]
  clear hW0 hWl
  go_wp2_with fail
  refine bodyPost_ret (results_cell_row rfl _ _ (w.heap.size + 1) _ _ _ _ rfl HT.out Try.underlying43 rfl (by kernel_rfl)) rfl ?_
  exact ⟨rfl, HE.out⟩
set_option maxRecDepth 100000 in
set_option maxHeartbeats 1000000 in
theorem ref_bare_2 (p n : Int) (w : World) :
    Calls Try.prog 30 #[.agg #[.int .i64 2, .int .i64 p, .int .i64 0, .int .i64 n, .int .i64 0, .int .i64 0, .string ⟨#[]⟩, .string ⟨#[]⟩]] w
      fun e w' => e = .returned (.agg #[.int .i64 2, .int .i64 p, .int .i64 0, .int .i64 0, .int .i64 0, .int .i64 0, .string ⟨#[]⟩, .string ⟨#[]⟩]) ∧ Ext w w' := by
  obtain ⟨W0, hW0⟩ : ∃ W, ((w.alloc (.cells (opCells ⟨2, p, 0, n, 0, 0, ⟨#[]⟩, ⟨#[]⟩⟩) 43)).alloc (.cells (opCells opZero) 43)) = W := ⟨_, rfl⟩
  have he0 : Ext w W0 := by rw [← hW0]; exact ((Ext.refl w).alloc _).alloc _
  have hx0 : OpAt W0 w.heap.size ⟨2, p, 0, n, 0, 0, ⟨#[]⟩, ⟨#[]⟩⟩ := by
    rw [← hW0]
    exact (heap_alloc_old _ _ (by rw [World.size_alloc]; omega)).trans (OpAt.new w _)
  have hr0 : OpAt W0 (w.heap.size + 1) opZero := by
    rw [← hW0]
    have := OpAt.new (w.alloc (.cells (opCells ⟨2, p, 0, n, 0, 0, ⟨#[]⟩, ⟨#[]⟩⟩) 43)) opZero
    rw [World.size_alloc] at this
    exact this
  have hx1 := hx0.setN 0
  have hr1 := hr0.grown (grown_setCell W0 w.heap.size 3 (.int .i64 0)) (by omega)
  have he1 := ext_set he0 (b := w.heap.size) (Nat.le_refl _) 3 (.int .i64 0)
  obtain ⟨fa00, fa01, fa02, fa03, fa04, fa05, fa06, fa07⟩ := hx0.fs
  obtain ⟨ca00, ca01, ca02, ca03, ca04, ca05, ca06, ca07⟩ := hx0.cs
  obtain ⟨c0, c1, c2, c3, c4, c5, c6, c7⟩ := OpAt.cs hx1
  obtain ⟨q0, q1, q2, q3, q4, q5, q6, q7⟩ := OpAt.cs hr1
  obtain ⟨e0, e1, e2, e3, e4, e5, e6, e7⟩ := OpAt.fs hr1
  have HT := Lib.hid (OpAt.all hr1 2 p 0 0 0 0 ⟨#[]⟩ ⟨#[]⟩)
  have HE := Lib.hid (ext_all he1 (b := w.heap.size + 1) (by omega) (.int .i64 2) (.int .i64 p) (.int .i64 0) (.int .i64 0) (.int .i64 0) (.int .i64 0) (.string ⟨#[]⟩) (.string ⟨#[]⟩))
  clear hx0 hr0 he0 hx1 hr1 he1
  go_enter Try.func30, Try.ntmps30
  go_upto_region 1 with fail
  have hWl : ((w.alloc (.cells #[.int .i64 2, .int .i64 p, .int .i64 0, .int .i64 n, .int .i64 0, .int .i64 0, .string ⟨#[]⟩, .string ⟨#[]⟩] 43)).alloc (.cells #[.int .i64 0, .int .i64 0, .int .i64 0, .int .i64 0, .int .i64 0, .int .i64 0, .string ⟨#[]⟩, .string ⟨#[]⟩] 43)) = W0 := hW0
  rw [hWl]
  clear hW0 hWl
  go_wp2_with fail
  refine bodyPost_ret (results_cell_row rfl _ _ (w.heap.size + 1) _ _ _ _ rfl HT.out Try.underlying43 rfl (by kernel_rfl)) rfl ?_
  exact ⟨rfl, HE.out⟩
set_option maxRecDepth 100000 in
set_option maxHeartbeats 1000000 in
theorem ref_bare_3 (p n : Int) (w : World) :
    Calls Try.prog 30 #[.agg #[.int .i64 3, .int .i64 p, .int .i64 0, .int .i64 n, .int .i64 0, .int .i64 0, .string ⟨#[]⟩, .string ⟨#[]⟩]] w
      fun e w' => e = .returned (.agg #[.int .i64 3, .int .i64 p, .int .i64 0, .int .i64 0, .int .i64 0, .int .i64 0, .string ⟨#[]⟩, .string ⟨#[]⟩]) ∧ Ext w w' := by
  obtain ⟨W0, hW0⟩ : ∃ W, ((w.alloc (.cells (opCells ⟨3, p, 0, n, 0, 0, ⟨#[]⟩, ⟨#[]⟩⟩) 43)).alloc (.cells (opCells opZero) 43)) = W := ⟨_, rfl⟩
  have he0 : Ext w W0 := by rw [← hW0]; exact ((Ext.refl w).alloc _).alloc _
  have hx0 : OpAt W0 w.heap.size ⟨3, p, 0, n, 0, 0, ⟨#[]⟩, ⟨#[]⟩⟩ := by
    rw [← hW0]
    exact (heap_alloc_old _ _ (by rw [World.size_alloc]; omega)).trans (OpAt.new w _)
  have hr0 : OpAt W0 (w.heap.size + 1) opZero := by
    rw [← hW0]
    have := OpAt.new (w.alloc (.cells (opCells ⟨3, p, 0, n, 0, 0, ⟨#[]⟩, ⟨#[]⟩⟩) 43)) opZero
    rw [World.size_alloc] at this
    exact this
  have hx1 := hx0.setN 0
  have hr1 := hr0.grown (grown_setCell W0 w.heap.size 3 (.int .i64 0)) (by omega)
  have he1 := ext_set he0 (b := w.heap.size) (Nat.le_refl _) 3 (.int .i64 0)
  obtain ⟨fa00, fa01, fa02, fa03, fa04, fa05, fa06, fa07⟩ := hx0.fs
  obtain ⟨ca00, ca01, ca02, ca03, ca04, ca05, ca06, ca07⟩ := hx0.cs
  obtain ⟨c0, c1, c2, c3, c4, c5, c6, c7⟩ := OpAt.cs hx1
  obtain ⟨q0, q1, q2, q3, q4, q5, q6, q7⟩ := OpAt.cs hr1
  obtain ⟨e0, e1, e2, e3, e4, e5, e6, e7⟩ := OpAt.fs hr1
  have HT := Lib.hid (OpAt.all hr1 3 p 0 0 0 0 ⟨#[]⟩ ⟨#[]⟩)
  have HE := Lib.hid (ext_all he1 (b := w.heap.size + 1) (by omega) (.int .i64 3) (.int .i64 p) (.int .i64 0) (.int .i64 0) (.int .i64 0) (.int .i64 0) (.string ⟨#[]⟩) (.string ⟨#[]⟩))
  clear hx0 hr0 he0 hx1 hr1 he1
  go_enter Try.func30, Try.ntmps30
  go_upto_region 1 with fail
  have hWl : ((w.alloc (.cells #[.int .i64 3, .int .i64 p, .int .i64 0, .int .i64 n, .int .i64 0, .int .i64 0, .string ⟨#[]⟩, .string ⟨#[]⟩] 43)).alloc (.cells #[.int .i64 0, .int .i64 0, .int .i64 0, .int .i64 0, .int .i64 0, .int .i64 0, .string ⟨#[]⟩, .string ⟨#[]⟩] 43)) = W0 := hW0
  rw [hWl]
  clear hW0 hWl
  go_wp2_with fail
  refine bodyPost_ret (results_cell_row rfl _ _ (w.heap.size + 1) _ _ _ _ rfl HT.out Try.underlying43 rfl (by kernel_rfl)) rfl ?_
  exact ⟨rfl, HE.out⟩
set_option maxRecDepth 100000 in
set_option maxHeartbeats 1000000 in
theorem ref_bare_4 (p t n : Int) (w : World) :
    Calls Try.prog 30 #[.agg #[.int .i64 4, .int .i64 p, .int .i64 t, .int .i64 n, .int .i64 0, .int .i64 0, .string ⟨#[]⟩, .string ⟨#[]⟩]] w
      fun e w' => e = .returned (.agg #[.int .i64 4, .int .i64 p, .int .i64 0, .int .i64 0, .int .i64 0, .int .i64 0, .string ⟨#[]⟩, .string ⟨#[]⟩]) ∧ Ext w w' := by
  obtain ⟨W0, hW0⟩ : ∃ W, ((w.alloc (.cells (opCells ⟨4, p, t, n, 0, 0, ⟨#[]⟩, ⟨#[]⟩⟩) 43)).alloc (.cells (opCells opZero) 43)) = W := ⟨_, rfl⟩
  have he0 : Ext w W0 := by rw [← hW0]; exact ((Ext.refl w).alloc _).alloc _
  have hx0 : OpAt W0 w.heap.size ⟨4, p, t, n, 0, 0, ⟨#[]⟩, ⟨#[]⟩⟩ := by
    rw [← hW0]
    exact (heap_alloc_old _ _ (by rw [World.size_alloc]; omega)).trans (OpAt.new w _)
  have hr0 : OpAt W0 (w.heap.size + 1) opZero := by
    rw [← hW0]
    have := OpAt.new (w.alloc (.cells (opCells ⟨4, p, t, n, 0, 0, ⟨#[]⟩, ⟨#[]⟩⟩) 43)) opZero
    rw [World.size_alloc] at this
    exact this
  have hx1 := hx0.setT 0
  have hr1 := hr0.grown (grown_setCell W0 w.heap.size 2 (.int .i64 0)) (by omega)
  have he1 := ext_set he0 (b := w.heap.size) (Nat.le_refl _) 2 (.int .i64 0)
  obtain ⟨fa00, fa01, fa02, fa03, fa04, fa05, fa06, fa07⟩ := hx0.fs
  obtain ⟨ca00, ca01, ca02, ca03, ca04, ca05, ca06, ca07⟩ := hx0.cs
  have hx2 := hx1.setN 0
  have hr2 := hr1.grown (grown_setCell (W0.setCell ⟨w.heap.size, 2, none⟩ (.int .i64 0)) w.heap.size 3 (.int .i64 0)) (by omega)
  have he2 := ext_set he1 (b := w.heap.size) (Nat.le_refl _) 3 (.int .i64 0)
  obtain ⟨fa10, fa11, fa12, fa13, fa14, fa15, fa16, fa17⟩ := hx1.fs
  obtain ⟨ca10, ca11, ca12, ca13, ca14, ca15, ca16, ca17⟩ := hx1.cs
  obtain ⟨c0, c1, c2, c3, c4, c5, c6, c7⟩ := OpAt.cs hx2
  obtain ⟨q0, q1, q2, q3, q4, q5, q6, q7⟩ := OpAt.cs hr2
  obtain ⟨e0, e1, e2, e3, e4, e5, e6, e7⟩ := OpAt.fs hr2
  have HT := Lib.hid (OpAt.all hr2 4 p 0 0 0 0 ⟨#[]⟩ ⟨#[]⟩)
  have HE := Lib.hid (ext_all he2 (b := w.heap.size + 1) (by omega) (.int .i64 4) (.int .i64 p) (.int .i64 0) (.int .i64 0) (.int .i64 0) (.int .i64 0) (.string ⟨#[]⟩) (.string ⟨#[]⟩))
  clear hx0 hr0 he0 hx1 hr1 he1 hx2 hr2 he2
  go_enter Try.func30, Try.ntmps30
  go_upto_region 1 with fail
  have hWl : ((w.alloc (.cells #[.int .i64 4, .int .i64 p, .int .i64 t, .int .i64 n, .int .i64 0, .int .i64 0, .string ⟨#[]⟩, .string ⟨#[]⟩] 43)).alloc (.cells #[.int .i64 0, .int .i64 0, .int .i64 0, .int .i64 0, .int .i64 0, .int .i64 0, .string ⟨#[]⟩, .string ⟨#[]⟩] 43)) = W0 := hW0
  rw [hWl]
  clear hW0 hWl
  go_wp2_with fail
  refine bodyPost_ret (results_cell_row rfl _ _ (w.heap.size + 1) _ _ _ _ rfl HT.out Try.underlying43 rfl (by kernel_rfl)) rfl ?_
  exact ⟨rfl, HE.out⟩
set_option maxRecDepth 100000 in
set_option maxHeartbeats 1000000 in
theorem ref_bare_5 (p t n : Int) (w : World) :
    Calls Try.prog 30 #[.agg #[.int .i64 5, .int .i64 p, .int .i64 t, .int .i64 n, .int .i64 0, .int .i64 0, .string ⟨#[]⟩, .string ⟨#[]⟩]] w
      fun e w' => e = .returned (.agg #[.int .i64 5, .int .i64 p, .int .i64 0, .int .i64 0, .int .i64 0, .int .i64 0, .string ⟨#[]⟩, .string ⟨#[]⟩]) ∧ Ext w w' := by
  obtain ⟨W0, hW0⟩ : ∃ W, ((w.alloc (.cells (opCells ⟨5, p, t, n, 0, 0, ⟨#[]⟩, ⟨#[]⟩⟩) 43)).alloc (.cells (opCells opZero) 43)) = W := ⟨_, rfl⟩
  have he0 : Ext w W0 := by rw [← hW0]; exact ((Ext.refl w).alloc _).alloc _
  have hx0 : OpAt W0 w.heap.size ⟨5, p, t, n, 0, 0, ⟨#[]⟩, ⟨#[]⟩⟩ := by
    rw [← hW0]
    exact (heap_alloc_old _ _ (by rw [World.size_alloc]; omega)).trans (OpAt.new w _)
  have hr0 : OpAt W0 (w.heap.size + 1) opZero := by
    rw [← hW0]
    have := OpAt.new (w.alloc (.cells (opCells ⟨5, p, t, n, 0, 0, ⟨#[]⟩, ⟨#[]⟩⟩) 43)) opZero
    rw [World.size_alloc] at this
    exact this
  have hx1 := hx0.setT 0
  have hr1 := hr0.grown (grown_setCell W0 w.heap.size 2 (.int .i64 0)) (by omega)
  have he1 := ext_set he0 (b := w.heap.size) (Nat.le_refl _) 2 (.int .i64 0)
  obtain ⟨fa00, fa01, fa02, fa03, fa04, fa05, fa06, fa07⟩ := hx0.fs
  obtain ⟨ca00, ca01, ca02, ca03, ca04, ca05, ca06, ca07⟩ := hx0.cs
  have hx2 := hx1.setN 0
  have hr2 := hr1.grown (grown_setCell (W0.setCell ⟨w.heap.size, 2, none⟩ (.int .i64 0)) w.heap.size 3 (.int .i64 0)) (by omega)
  have he2 := ext_set he1 (b := w.heap.size) (Nat.le_refl _) 3 (.int .i64 0)
  obtain ⟨fa10, fa11, fa12, fa13, fa14, fa15, fa16, fa17⟩ := hx1.fs
  obtain ⟨ca10, ca11, ca12, ca13, ca14, ca15, ca16, ca17⟩ := hx1.cs
  obtain ⟨c0, c1, c2, c3, c4, c5, c6, c7⟩ := OpAt.cs hx2
  obtain ⟨q0, q1, q2, q3, q4, q5, q6, q7⟩ := OpAt.cs hr2
  obtain ⟨e0, e1, e2, e3, e4, e5, e6, e7⟩ := OpAt.fs hr2
  have HT := Lib.hid (OpAt.all hr2 5 p 0 0 0 0 ⟨#[]⟩ ⟨#[]⟩)
  have HE := Lib.hid (ext_all he2 (b := w.heap.size + 1) (by omega) (.int .i64 5) (.int .i64 p) (.int .i64 0) (.int .i64 0) (.int .i64 0) (.int .i64 0) (.string ⟨#[]⟩) (.string ⟨#[]⟩))
  clear hx0 hr0 he0 hx1 hr1 he1 hx2 hr2 he2
  go_enter Try.func30, Try.ntmps30
  go_upto_region 1 with fail
  have hWl : ((w.alloc (.cells #[.int .i64 5, .int .i64 p, .int .i64 t, .int .i64 n, .int .i64 0, .int .i64 0, .string ⟨#[]⟩, .string ⟨#[]⟩] 43)).alloc (.cells #[.int .i64 0, .int .i64 0, .int .i64 0, .int .i64 0, .int .i64 0, .int .i64 0, .string ⟨#[]⟩, .string ⟨#[]⟩] 43)) = W0 := hW0
  rw [hWl]
  clear hW0 hWl
  go_wp2_with fail
  refine bodyPost_ret (results_cell_row rfl _ _ (w.heap.size + 1) _ _ _ _ rfl HT.out Try.underlying43 rfl (by kernel_rfl)) rfl ?_
  exact ⟨rfl, HE.out⟩
set_option maxRecDepth 100000 in
set_option maxHeartbeats 1000000 in
theorem ref_bare_6 (p t n : Int) (w : World) :
    Calls Try.prog 30 #[.agg #[.int .i64 6, .int .i64 p, .int .i64 t, .int .i64 n, .int .i64 0, .int .i64 0, .string ⟨#[]⟩, .string ⟨#[]⟩]] w
      fun e w' => e = .returned (.agg #[.int .i64 6, .int .i64 p, .int .i64 0, .int .i64 0, .int .i64 0, .int .i64 0, .string ⟨#[]⟩, .string ⟨#[]⟩]) ∧ Ext w w' := by
  obtain ⟨W0, hW0⟩ : ∃ W, ((w.alloc (.cells (opCells ⟨6, p, t, n, 0, 0, ⟨#[]⟩, ⟨#[]⟩⟩) 43)).alloc (.cells (opCells opZero) 43)) = W := ⟨_, rfl⟩
  have he0 : Ext w W0 := by rw [← hW0]; exact ((Ext.refl w).alloc _).alloc _
  have hx0 : OpAt W0 w.heap.size ⟨6, p, t, n, 0, 0, ⟨#[]⟩, ⟨#[]⟩⟩ := by
    rw [← hW0]
    exact (heap_alloc_old _ _ (by rw [World.size_alloc]; omega)).trans (OpAt.new w _)
  have hr0 : OpAt W0 (w.heap.size + 1) opZero := by
    rw [← hW0]
    have := OpAt.new (w.alloc (.cells (opCells ⟨6, p, t, n, 0, 0, ⟨#[]⟩, ⟨#[]⟩⟩) 43)) opZero
    rw [World.size_alloc] at this
    exact this
  have hx1 := hx0.setT 0
  have hr1 := hr0.grown (grown_setCell W0 w.heap.size 2 (.int .i64 0)) (by omega)
  have he1 := ext_set he0 (b := w.heap.size) (Nat.le_refl _) 2 (.int .i64 0)
  obtain ⟨fa00, fa01, fa02, fa03, fa04, fa05, fa06, fa07⟩ := hx0.fs
  obtain ⟨ca00, ca01, ca02, ca03, ca04, ca05, ca06, ca07⟩ := hx0.cs
  have hx2 := hx1.setN 0
  have hr2 := hr1.grown (grown_setCell (W0.setCell ⟨w.heap.size, 2, none⟩ (.int .i64 0)) w.heap.size 3 (.int .i64 0)) (by omega)
  have he2 := ext_set he1 (b := w.heap.size) (Nat.le_refl _) 3 (.int .i64 0)
  obtain ⟨fa10, fa11, fa12, fa13, fa14, fa15, fa16, fa17⟩ := hx1.fs
  obtain ⟨ca10, ca11, ca12, ca13, ca14, ca15, ca16, ca17⟩ := hx1.cs
  obtain ⟨c0, c1, c2, c3, c4, c5, c6, c7⟩ := OpAt.cs hx2
  obtain ⟨q0, q1, q2, q3, q4, q5, q6, q7⟩ := OpAt.cs hr2
  obtain ⟨e0, e1, e2, e3, e4, e5, e6, e7⟩ := OpAt.fs hr2
  have HT := Lib.hid (OpAt.all hr2 6 p 0 0 0 0 ⟨#[]⟩ ⟨#[]⟩)
  have HE := Lib.hid (ext_all he2 (b := w.heap.size + 1) (by omega) (.int .i64 6) (.int .i64 p) (.int .i64 0) (.int .i64 0) (.int .i64 0) (.int .i64 0) (.string ⟨#[]⟩) (.string ⟨#[]⟩))
  clear hx0 hr0 he0 hx1 hr1 he1 hx2 hr2 he2
  go_enter Try.func30, Try.ntmps30
  go_upto_region 1 with fail
  have hWl : ((w.alloc (.cells #[.int .i64 6, .int .i64 p, .int .i64 t, .int .i64 n, .int .i64 0, .int .i64 0, .string ⟨#[]⟩, .string ⟨#[]⟩] 43)).alloc (.cells #[.int .i64 0, .int .i64 0, .int .i64 0, .int .i64 0, .int .i64 0, .int .i64 0, .string ⟨#[]⟩, .string ⟨#[]⟩] 43)) = W0 := hW0
  rw [hWl]
  clear hW0 hWl
  go_wp2_with fail
  refine bodyPost_ret (results_cell_row rfl _ _ (w.heap.size + 1) _ _ _ _ rfl HT.out Try.underlying43 rfl (by kernel_rfl)) rfl ?_
  exact ⟨rfl, HE.out⟩
set_option maxRecDepth 100000 in
set_option maxHeartbeats 1000000 in
theorem ref_bare_7 (p t n a m : Int) (w : World) :
    Calls Try.prog 30 #[.agg #[.int .i64 7, .int .i64 p, .int .i64 t, .int .i64 n, .int .i64 a, .int .i64 m, .string ⟨#[]⟩, .string ⟨#[]⟩]] w
      fun e w' => e = .returned (.agg #[.int .i64 7, .int .i64 p, .int .i64 0, .int .i64 0, .int .i64 0, .int .i64 0, .string ⟨#[]⟩, .string ⟨#[]⟩]) ∧ Ext w w' := by
  obtain ⟨W0, hW0⟩ : ∃ W, ((w.alloc (.cells (opCells ⟨7, p, t, n, a, m, ⟨#[]⟩, ⟨#[]⟩⟩) 43)).alloc (.cells (opCells opZero) 43)) = W := ⟨_, rfl⟩
  have he0 : Ext w W0 := by rw [← hW0]; exact ((Ext.refl w).alloc _).alloc _
  have hx0 : OpAt W0 w.heap.size ⟨7, p, t, n, a, m, ⟨#[]⟩, ⟨#[]⟩⟩ := by
    rw [← hW0]
    exact (heap_alloc_old _ _ (by rw [World.size_alloc]; omega)).trans (OpAt.new w _)
  have hr0 : OpAt W0 (w.heap.size + 1) opZero := by
    rw [← hW0]
    have := OpAt.new (w.alloc (.cells (opCells ⟨7, p, t, n, a, m, ⟨#[]⟩, ⟨#[]⟩⟩) 43)) opZero
    rw [World.size_alloc] at this
    exact this
  have hx1 := hx0.setT 0
  have hr1 := hr0.grown (grown_setCell W0 w.heap.size 2 (.int .i64 0)) (by omega)
  have he1 := ext_set he0 (b := w.heap.size) (Nat.le_refl _) 2 (.int .i64 0)
  obtain ⟨fa00, fa01, fa02, fa03, fa04, fa05, fa06, fa07⟩ := hx0.fs
  obtain ⟨ca00, ca01, ca02, ca03, ca04, ca05, ca06, ca07⟩ := hx0.cs
  have hx2 := hx1.setN 0
  have hr2 := hr1.grown (grown_setCell (W0.setCell ⟨w.heap.size, 2, none⟩ (.int .i64 0)) w.heap.size 3 (.int .i64 0)) (by omega)
  have he2 := ext_set he1 (b := w.heap.size) (Nat.le_refl _) 3 (.int .i64 0)
  obtain ⟨fa10, fa11, fa12, fa13, fa14, fa15, fa16, fa17⟩ := hx1.fs
  obtain ⟨ca10, ca11, ca12, ca13, ca14, ca15, ca16, ca17⟩ := hx1.cs
  have hx3 := hx2.setA 0
  have hr3 := hr2.grown (grown_setCell ((W0.setCell ⟨w.heap.size, 2, none⟩ (.int .i64 0)).setCell ⟨w.heap.size, 3, none⟩ (.int .i64 0)) w.heap.size 4 (.int .i64 0)) (by omega)
  have he3 := ext_set he2 (b := w.heap.size) (Nat.le_refl _) 4 (.int .i64 0)
  obtain ⟨fa20, fa21, fa22, fa23, fa24, fa25, fa26, fa27⟩ := hx2.fs
  obtain ⟨ca20, ca21, ca22, ca23, ca24, ca25, ca26, ca27⟩ := hx2.cs
  have hx4 := hx3.setM 0
  have hr4 := hr3.grown (grown_setCell (((W0.setCell ⟨w.heap.size, 2, none⟩ (.int .i64 0)).setCell ⟨w.heap.size, 3, none⟩ (.int .i64 0)).setCell ⟨w.heap.size, 4, none⟩ (.int .i64 0)) w.heap.size 5 (.int .i64 0)) (by omega)
  have he4 := ext_set he3 (b := w.heap.size) (Nat.le_refl _) 5 (.int .i64 0)
  obtain ⟨fa30, fa31, fa32, fa33, fa34, fa35, fa36, fa37⟩ := hx3.fs
  obtain ⟨ca30, ca31, ca32, ca33, ca34, ca35, ca36, ca37⟩ := hx3.cs
  obtain ⟨c0, c1, c2, c3, c4, c5, c6, c7⟩ := OpAt.cs hx4
  obtain ⟨q0, q1, q2, q3, q4, q5, q6, q7⟩ := OpAt.cs hr4
  obtain ⟨e0, e1, e2, e3, e4, e5, e6, e7⟩ := OpAt.fs hr4
  have HT := Lib.hid (OpAt.all hr4 7 p 0 0 0 0 ⟨#[]⟩ ⟨#[]⟩)
  have HE := Lib.hid (ext_all he4 (b := w.heap.size + 1) (by omega) (.int .i64 7) (.int .i64 p) (.int .i64 0) (.int .i64 0) (.int .i64 0) (.int .i64 0) (.string ⟨#[]⟩) (.string ⟨#[]⟩))
  clear hx0 hr0 he0 hx1 hr1 he1 hx2 hr2 he2 hx3 hr3 he3 hx4 hr4 he4
  go_enter Try.func30, Try.ntmps30
  go_upto_region 1 with fail
  have hWl : ((w.alloc (.cells #[.int .i64 7, .int .i64 p, .int .i64 t, .int .i64 n, .int .i64 a, .int .i64 m, .string ⟨#[]⟩, .string ⟨#[]⟩] 43)).alloc (.cells #[.int .i64 0, .int .i64 0, .int .i64 0, .int .i64 0, .int .i64 0, .int .i64 0, .string ⟨#[]⟩, .string ⟨#[]⟩] 43)) = W0 := hW0
  rw [hWl]
  clear hW0 hWl
  go_wp2_with fail
  refine bodyPost_ret (results_cell_row rfl _ _ (w.heap.size + 1) _ _ _ _ rfl HT.out Try.underlying43 rfl (by kernel_rfl)) rfl ?_
  exact ⟨rfl, HE.out⟩
set_option maxRecDepth 100000 in
set_option maxHeartbeats 1000000 in
theorem ref_bare_8 (p n : Int) (w : World) :
    Calls Try.prog 30 #[.agg #[.int .i64 8, .int .i64 p, .int .i64 0, .int .i64 n, .int .i64 0, .int .i64 0, .string ⟨#[]⟩, .string ⟨#[]⟩]] w
      fun e w' => e = .returned (.agg #[.int .i64 8, .int .i64 p, .int .i64 0, .int .i64 0, .int .i64 0, .int .i64 0, .string ⟨#[]⟩, .string ⟨#[]⟩]) ∧ Ext w w' := by
  obtain ⟨W0, hW0⟩ : ∃ W, ((w.alloc (.cells (opCells ⟨8, p, 0, n, 0, 0, ⟨#[]⟩, ⟨#[]⟩⟩) 43)).alloc (.cells (opCells opZero) 43)) = W := ⟨_, rfl⟩
  have he0 : Ext w W0 := by rw [← hW0]; exact ((Ext.refl w).alloc _).alloc _
  have hx0 : OpAt W0 w.heap.size ⟨8, p, 0, n, 0, 0, ⟨#[]⟩, ⟨#[]⟩⟩ := by
    rw [← hW0]
    exact (heap_alloc_old _ _ (by rw [World.size_alloc]; omega)).trans (OpAt.new w _)
  have hr0 : OpAt W0 (w.heap.size + 1) opZero := by
    rw [← hW0]
    have := OpAt.new (w.alloc (.cells (opCells ⟨8, p, 0, n, 0, 0, ⟨#[]⟩, ⟨#[]⟩⟩) 43)) opZero
    rw [World.size_alloc] at this
    exact this
  have hx1 := hx0.setN 0
  have hr1 := hr0.grown (grown_setCell W0 w.heap.size 3 (.int .i64 0)) (by omega)
  have he1 := ext_set he0 (b := w.heap.size) (Nat.le_refl _) 3 (.int .i64 0)
  obtain ⟨fa00, fa01, fa02, fa03, fa04, fa05, fa06, fa07⟩ := hx0.fs
  obtain ⟨ca00, ca01, ca02, ca03, ca04, ca05, ca06, ca07⟩ := hx0.cs
  obtain ⟨c0, c1, c2, c3, c4, c5, c6, c7⟩ := OpAt.cs hx1
  obtain ⟨q0, q1, q2, q3, q4, q5, q6, q7⟩ := OpAt.cs hr1
  obtain ⟨e0, e1, e2, e3, e4, e5, e6, e7⟩ := OpAt.fs hr1
  have HT := Lib.hid (OpAt.all hr1 8 p 0 0 0 0 ⟨#[]⟩ ⟨#[]⟩)
  have HE := Lib.hid (ext_all he1 (b := w.heap.size + 1) (by omega) (.int .i64 8) (.int .i64 p) (.int .i64 0) (.int .i64 0) (.int .i64 0) (.int .i64 0) (.string ⟨#[]⟩) (.string ⟨#[]⟩))
  clear hx0 hr0 he0 hx1 hr1 he1
  go_enter Try.func30, Try.ntmps30
  go_upto_region 1 with fail
  have hWl : ((w.alloc (.cells #[.int .i64 8, .int .i64 p, .int .i64 0, .int .i64 n, .int .i64 0, .int .i64 0, .string ⟨#[]⟩, .string ⟨#[]⟩] 43)).alloc (.cells #[.int .i64 0, .int .i64 0, .int .i64 0, .int .i64 0, .int .i64 0, .int .i64 0, .string ⟨#[]⟩, .string ⟨#[]⟩] 43)) = W0 := hW0
  rw [hWl]
  clear hW0 hWl
  go_wp2_with fail
  refine bodyPost_ret (results_cell_row rfl _ _ (w.heap.size + 1) _ _ _ _ rfl HT.out Try.underlying43 rfl (by kernel_rfl)) rfl ?_
  exact ⟨rfl, HE.out⟩
set_option maxRecDepth 100000 in
set_option maxHeartbeats 1000000 in
theorem ref_bare_9 (p n a : Int) (w : World) :
    Calls Try.prog 30 #[.agg #[.int .i64 9, .int .i64 p, .int .i64 0, .int .i64 n, .int .i64 a, .int .i64 0, .string ⟨#[]⟩, .string ⟨#[]⟩]] w
      fun e w' => e = .returned (.agg #[.int .i64 9, .int .i64 p, .int .i64 0, .int .i64 0, .int .i64 0, .int .i64 0, .string ⟨#[]⟩, .string ⟨#[]⟩]) ∧ Ext w w' := by
  obtain ⟨W0, hW0⟩ : ∃ W, ((w.alloc (.cells (opCells ⟨9, p, 0, n, a, 0, ⟨#[]⟩, ⟨#[]⟩⟩) 43)).alloc (.cells (opCells opZero) 43)) = W := ⟨_, rfl⟩
  have he0 : Ext w W0 := by rw [← hW0]; exact ((Ext.refl w).alloc _).alloc _
  have hx0 : OpAt W0 w.heap.size ⟨9, p, 0, n, a, 0, ⟨#[]⟩, ⟨#[]⟩⟩ := by
    rw [← hW0]
    exact (heap_alloc_old _ _ (by rw [World.size_alloc]; omega)).trans (OpAt.new w _)
  have hr0 : OpAt W0 (w.heap.size + 1) opZero := by
    rw [← hW0]
    have := OpAt.new (w.alloc (.cells (opCells ⟨9, p, 0, n, a, 0, ⟨#[]⟩, ⟨#[]⟩⟩) 43)) opZero
    rw [World.size_alloc] at this
    exact this
  have hx1 := hx0.setN 0
  have hr1 := hr0.grown (grown_setCell W0 w.heap.size 3 (.int .i64 0)) (by omega)
  have he1 := ext_set he0 (b := w.heap.size) (Nat.le_refl _) 3 (.int .i64 0)
  obtain ⟨fa00, fa01, fa02, fa03, fa04, fa05, fa06, fa07⟩ := hx0.fs
  obtain ⟨ca00, ca01, ca02, ca03, ca04, ca05, ca06, ca07⟩ := hx0.cs
  have hx2 := hx1.setA 0
  have hr2 := hr1.grown (grown_setCell (W0.setCell ⟨w.heap.size, 3, none⟩ (.int .i64 0)) w.heap.size 4 (.int .i64 0)) (by omega)
  have he2 := ext_set he1 (b := w.heap.size) (Nat.le_refl _) 4 (.int .i64 0)
  obtain ⟨fa10, fa11, fa12, fa13, fa14, fa15, fa16, fa17⟩ := hx1.fs
  obtain ⟨ca10, ca11, ca12, ca13, ca14, ca15, ca16, ca17⟩ := hx1.cs
  obtain ⟨c0, c1, c2, c3, c4, c5, c6, c7⟩ := OpAt.cs hx2
  obtain ⟨q0, q1, q2, q3, q4, q5, q6, q7⟩ := OpAt.cs hr2
  obtain ⟨e0, e1, e2, e3, e4, e5, e6, e7⟩ := OpAt.fs hr2
  have HT := Lib.hid (OpAt.all hr2 9 p 0 0 0 0 ⟨#[]⟩ ⟨#[]⟩)
  have HE := Lib.hid (ext_all he2 (b := w.heap.size + 1) (by omega) (.int .i64 9) (.int .i64 p) (.int .i64 0) (.int .i64 0) (.int .i64 0) (.int .i64 0) (.string ⟨#[]⟩) (.string ⟨#[]⟩))
  clear hx0 hr0 he0 hx1 hr1 he1 hx2 hr2 he2
  go_enter Try.func30, Try.ntmps30
  go_upto_region 1 with fail
  have hWl : ((w.alloc (.cells #[.int .i64 9, .int .i64 p, .int .i64 0, .int .i64 n, .int .i64 a, .int .i64 0, .string ⟨#[]⟩, .string ⟨#[]⟩] 43)).alloc (.cells #[.int .i64 0, .int .i64 0, .int .i64 0, .int .i64 0, .int .i64 0, .int .i64 0, .string ⟨#[]⟩, .string ⟨#[]⟩] 43)) = W0 := hW0
  rw [hWl]
  clear hW0 hWl
  go_wp2_with fail
  refine bodyPost_ret (results_cell_row rfl _ _ (w.heap.size + 1) _ _ _ _ rfl HT.out Try.underlying43 rfl (by kernel_rfl)) rfl ?_
  exact ⟨rfl, HE.out⟩
set_option maxRecDepth 100000 in
set_option maxHeartbeats 1000000 in
theorem ref_bare_10 (p : Int) (w : World) :
    Calls Try.prog 30 #[.agg #[.int .i64 10, .int .i64 p, .int .i64 0, .int .i64 0, .int .i64 0, .int .i64 0, .string ⟨#[]⟩, .string ⟨#[]⟩]] w
      fun e w' => e = .returned (.agg #[.int .i64 10, .int .i64 p, .int .i64 0, .int .i64 0, .int .i64 0, .int .i64 0, .string ⟨#[]⟩, .string ⟨#[]⟩]) ∧ Ext w w' := by
  obtain ⟨W0, hW0⟩ : ∃ W, ((w.alloc (.cells (opCells ⟨10, p, 0, 0, 0, 0, ⟨#[]⟩, ⟨#[]⟩⟩) 43)).alloc (.cells (opCells opZero) 43)) = W := ⟨_, rfl⟩
  have he0 : Ext w W0 := by rw [← hW0]; exact ((Ext.refl w).alloc _).alloc _
  have hx0 : OpAt W0 w.heap.size ⟨10, p, 0, 0, 0, 0, ⟨#[]⟩, ⟨#[]⟩⟩ := by
    rw [← hW0]
    exact (heap_alloc_old _ _ (by rw [World.size_alloc]; omega)).trans (OpAt.new w _)
  have hr0 : OpAt W0 (w.heap.size + 1) opZero := by
    rw [← hW0]
    have := OpAt.new (w.alloc (.cells (opCells ⟨10, p, 0, 0, 0, 0, ⟨#[]⟩, ⟨#[]⟩⟩) 43)) opZero
    rw [World.size_alloc] at this
    exact this
  obtain ⟨c0, c1, c2, c3, c4, c5, c6, c7⟩ := OpAt.cs hx0
  obtain ⟨q0, q1, q2, q3, q4, q5, q6, q7⟩ := OpAt.cs hr0
  obtain ⟨e0, e1, e2, e3, e4, e5, e6, e7⟩ := OpAt.fs hr0
  have HT := Lib.hid (OpAt.all hr0 10 p 0 0 0 0 ⟨#[]⟩ ⟨#[]⟩)
  have HE := Lib.hid (ext_all he0 (b := w.heap.size + 1) (by omega) (.int .i64 10) (.int .i64 p) (.int .i64 0) (.int .i64 0) (.int .i64 0) (.int .i64 0) (.string ⟨#[]⟩) (.string ⟨#[]⟩))
  clear hx0 hr0 he0
  go_enter Try.func30, Try.ntmps30
  go_upto_region 1 with fail
  have hWl : ((w.alloc (.cells #[.int .i64 10, .int .i64 p, .int .i64 0, .int .i64 0, .int .i64 0, .int .i64 0, .string ⟨#[]⟩, .string ⟨#[]⟩] 43)).alloc (.cells #[.int .i64 0, .int .i64 0, .int .i64 0, .int .i64 0, .int .i64 0, .int .i64 0, .string ⟨#[]⟩, .string ⟨#[]⟩] 43)) = W0 := hW0
  rw [hWl]
  clear hW0 hWl
  go_wp2_with fail
  refine bodyPost_ret (results_cell_row rfl _ _ (w.heap.size + 1) _ _ _ _ rfl HT.out Try.underlying43 rfl (by kernel_rfl)) rfl ?_
  exact ⟨rfl, HE.out⟩
set_option maxRecDepth 100000 in
set_option maxHeartbeats 1000000 in
theorem ref_bare_11 (p : Int) (w : World) :
    Calls Try.prog 30 #[.agg #[.int .i64 11, .int .i64 p, .int .i64 0, .int .i64 0, .int .i64 0, .int .i64 0, .string ⟨#[]⟩, .string ⟨#[]⟩]] w
      fun e w' => e = .returned (.agg #[.int .i64 11, .int .i64 p, .int .i64 0, .int .i64 0, .int .i64 0, .int .i64 0, .string ⟨#[]⟩, .string ⟨#[]⟩]) ∧ Ext w w' := by
  obtain ⟨W0, hW0⟩ : ∃ W, ((w.alloc (.cells (opCells ⟨11, p, 0, 0, 0, 0, ⟨#[]⟩, ⟨#[]⟩⟩) 43)).alloc (.cells (opCells opZero) 43)) = W := ⟨_, rfl⟩
  have he0 : Ext w W0 := by rw [← hW0]; exact ((Ext.refl w).alloc _).alloc _
  have hx0 : OpAt W0 w.heap.size ⟨11, p, 0, 0, 0, 0, ⟨#[]⟩, ⟨#[]⟩⟩ := by
    rw [← hW0]
    exact (heap_alloc_old _ _ (by rw [World.size_alloc]; omega)).trans (OpAt.new w _)
  have hr0 : OpAt W0 (w.heap.size + 1) opZero := by
    rw [← hW0]
    have := OpAt.new (w.alloc (.cells (opCells ⟨11, p, 0, 0, 0, 0, ⟨#[]⟩, ⟨#[]⟩⟩) 43)) opZero
    rw [World.size_alloc] at this
    exact this
  obtain ⟨c0, c1, c2, c3, c4, c5, c6, c7⟩ := OpAt.cs hx0
  obtain ⟨q0, q1, q2, q3, q4, q5, q6, q7⟩ := OpAt.cs hr0
  obtain ⟨e0, e1, e2, e3, e4, e5, e6, e7⟩ := OpAt.fs hr0
  have HT := Lib.hid (OpAt.all hr0 11 p 0 0 0 0 ⟨#[]⟩ ⟨#[]⟩)
  have HE := Lib.hid (ext_all he0 (b := w.heap.size + 1) (by omega) (.int .i64 11) (.int .i64 p) (.int .i64 0) (.int .i64 0) (.int .i64 0) (.int .i64 0) (.string ⟨#[]⟩) (.string ⟨#[]⟩))
  clear hx0 hr0 he0
  go_enter Try.func30, Try.ntmps30
  go_upto_region 1 with fail
  have hWl : ((w.alloc (.cells #[.int .i64 11, .int .i64 p, .int .i64 0, .int .i64 0, .int .i64 0, .int .i64 0, .string ⟨#[]⟩, .string ⟨#[]⟩] 43)).alloc (.cells #[.int .i64 0, .int .i64 0, .int .i64 0, .int .i64 0, .int .i64 0, .int .i64 0, .string ⟨#[]⟩, .string ⟨#[]⟩] 43)) = W0 := hW0
  rw [hWl]
  clear hW0 hWl
  go_wp2_with fail
  refine bodyPost_ret (results_cell_row rfl _ _ (w.heap.size + 1) _ _ _ _ rfl HT.out Try.underlying43 rfl (by kernel_rfl)) rfl ?_
  exact ⟨rfl, HE.out⟩
set_option maxRecDepth 100000 in
set_option maxHeartbeats 1000000 in
theorem ref_bare_12 (p : Int) (w : World) :
    Calls Try.prog 30 #[.agg #[.int .i64 12, .int .i64 p, .int .i64 0, .int .i64 0, .int .i64 0, .int .i64 0, .string ⟨#[]⟩, .string ⟨#[]⟩]] w
      fun e w' => e = .returned (.agg #[.int .i64 12, .int .i64 p, .int .i64 0, .int .i64 0, .int .i64 0, .int .i64 0, .string ⟨#[]⟩, .string ⟨#[]⟩]) ∧ Ext w w' := by
  obtain ⟨W0, hW0⟩ : ∃ W, ((w.alloc (.cells (opCells ⟨12, p, 0, 0, 0, 0, ⟨#[]⟩, ⟨#[]⟩⟩) 43)).alloc (.cells (opCells opZero) 43)) = W := ⟨_, rfl⟩
  have he0 : Ext w W0 := by rw [← hW0]; exact ((Ext.refl w).alloc _).alloc _
  have hx0 : OpAt W0 w.heap.size ⟨12, p, 0, 0, 0, 0, ⟨#[]⟩, ⟨#[]⟩⟩ := by
    rw [← hW0]
    exact (heap_alloc_old _ _ (by rw [World.size_alloc]; omega)).trans (OpAt.new w _)
  have hr0 : OpAt W0 (w.heap.size + 1) opZero := by
    rw [← hW0]
    have := OpAt.new (w.alloc (.cells (opCells ⟨12, p, 0, 0, 0, 0, ⟨#[]⟩, ⟨#[]⟩⟩) 43)) opZero
    rw [World.size_alloc] at this
    exact this
  obtain ⟨c0, c1, c2, c3, c4, c5, c6, c7⟩ := OpAt.cs hx0
  obtain ⟨q0, q1, q2, q3, q4, q5, q6, q7⟩ := OpAt.cs hr0
  obtain ⟨e0, e1, e2, e3, e4, e5, e6, e7⟩ := OpAt.fs hr0
  have HT := Lib.hid (OpAt.all hr0 12 p 0 0 0 0 ⟨#[]⟩ ⟨#[]⟩)
  have HE := Lib.hid (ext_all he0 (b := w.heap.size + 1) (by omega) (.int .i64 12) (.int .i64 p) (.int .i64 0) (.int .i64 0) (.int .i64 0) (.int .i64 0) (.string ⟨#[]⟩) (.string ⟨#[]⟩))
  clear hx0 hr0 he0
  go_enter Try.func30, Try.ntmps30
  go_upto_region 1 with fail
  have hWl : ((w.alloc (.cells #[.int .i64 12, .int .i64 p, .int .i64 0, .int .i64 0, .int .i64 0, .int .i64 0, .string ⟨#[]⟩, .string ⟨#[]⟩] 43)).alloc (.cells #[.int .i64 0, .int .i64 0, .int .i64 0, .int .i64 0, .int .i64 0, .int .i64 0, .string ⟨#[]⟩, .string ⟨#[]⟩] 43)) = W0 := hW0
  rw [hWl]
  clear hW0 hWl
  go_wp2_with fail
  refine bodyPost_ret (results_cell_row rfl _ _ (w.heap.size + 1) _ _ _ _ rfl HT.out Try.underlying43 rfl (by kernel_rfl)) rfl ?_
  exact ⟨rfl, HE.out⟩

theorem ref_bare {n : Nat} {adj : Nat → Nat → Bool} (k p t m a q : Int) (pa da : ByteArray) (w : World) (h : DR.OkOp n adj ⟨k, p, t, m, a, q, pa, da⟩) :
    Calls Try.prog 30 #[.agg #[.int .i64 k, .int .i64 p, .int .i64 t, .int .i64 m, .int .i64 a, .int .i64 q, .string pa, .string da]] w
      fun e w' => e = .returned (.agg #[.int .i64 k, .int .i64 p, .int .i64 0, .int .i64 0, .int .i64 0, .int .i64 0, .string ⟨#[]⟩, .string ⟨#[]⟩]) ∧ Ext w w' := by
  have h0 : 0 ≤ k ∧ k < 13 := h.kind
  have bt : ¬ (4 ≤ k ∧ k ≤ 7) → t = 0 := h.bt
  have bn : ¬ (2 ≤ k ∧ k ≤ 9) → m = 0 := h.bn
  have ba : ¬ (k = 7 ∨ k = 9) → a = 0 := h.ba
  have bm : k ≠ 7 → q = 0 := h.bm
  have bp : ¬ k < 2 → pa = ⟨#[]⟩ := h.bp
  have bd : k ≠ 0 → da = ⟨#[]⟩ := h.bd
  have hk : k = 0 ∨ k = 1 ∨ k = 2 ∨ k = 3 ∨ k = 4 ∨ k = 5 ∨ k = 6 ∨ k = 7 ∨ k = 8 ∨ k = 9 ∨ k = 10 ∨ k = 11 ∨ k = 12 := by omega
  clear h h0
  rcases hk with rfl | rfl | rfl | rfl | rfl | rfl | rfl | rfl | rfl | rfl | rfl | rfl | rfl
  · obtain rfl := bt (by decide)
    obtain rfl := bn (by decide)
    obtain rfl := ba (by decide)
    obtain rfl := bm (by decide)
    exact ref_bare_0 p pa da w
  · obtain rfl := bt (by decide)
    obtain rfl := bn (by decide)
    obtain rfl := ba (by decide)
    obtain rfl := bm (by decide)
    obtain rfl := bd (by decide)
    exact ref_bare_1 p pa w
  · obtain rfl := bt (by decide)
    obtain rfl := ba (by decide)
    obtain rfl := bm (by decide)
    obtain rfl := bp (by decide)
    obtain rfl := bd (by decide)
    exact ref_bare_2 p m w
  · obtain rfl := bt (by decide)
    obtain rfl := ba (by decide)
    obtain rfl := bm (by decide)
    obtain rfl := bp (by decide)
    obtain rfl := bd (by decide)
    exact ref_bare_3 p m w
  · obtain rfl := ba (by decide)
    obtain rfl := bm (by decide)
    obtain rfl := bp (by decide)
    obtain rfl := bd (by decide)
    exact ref_bare_4 p t m w
  · obtain rfl := ba (by decide)
    obtain rfl := bm (by decide)
    obtain rfl := bp (by decide)
    obtain rfl := bd (by decide)
    exact ref_bare_5 p t m w
  · obtain rfl := ba (by decide)
    obtain rfl := bm (by decide)
    obtain rfl := bp (by decide)
    obtain rfl := bd (by decide)
    exact ref_bare_6 p t m w
  · obtain rfl := bp (by decide)
    obtain rfl := bd (by decide)
    exact ref_bare_7 p t m a q w
  · obtain rfl := bt (by decide)
    obtain rfl := ba (by decide)
    obtain rfl := bm (by decide)
    obtain rfl := bp (by decide)
    obtain rfl := bd (by decide)
    exact ref_bare_8 p m w
  · obtain rfl := bt (by decide)
    obtain rfl := bm (by decide)
    obtain rfl := bp (by decide)
    obtain rfl := bd (by decide)
    exact ref_bare_9 p m a w
  · obtain rfl := bt (by decide)
    obtain rfl := bn (by decide)
    obtain rfl := ba (by decide)
    obtain rfl := bm (by decide)
    obtain rfl := bp (by decide)
    obtain rfl := bd (by decide)
    exact ref_bare_10 p w
  · obtain rfl := bt (by decide)
    obtain rfl := bn (by decide)
    obtain rfl := ba (by decide)
    obtain rfl := bm (by decide)
    obtain rfl := bp (by decide)
    obtain rfl := bd (by decide)
    exact ref_bare_11 p w
  · obtain rfl := bt (by decide)
    obtain rfl := bn (by decide)
    obtain rfl := ba (by decide)
    obtain rfl := bm (by decide)
    obtain rfl := bp (by decide)
    obtain rfl := bd (by decide)
    exact ref_bare_12 p w

set_option maxRecDepth 100000 in
set_option maxHeartbeats 2000000 in
theorem ref_check34 {n : Nat} {adj : Nat → Nat → Bool} (hn : n ≤ 64) (k p t m a q : Int) (pa da : ByteArray) (w : World) (h : DR.OkOp n adj ⟨k, p, t, m, a, q, pa, da⟩) :
    Calls Try.prog 15 #[.agg #[.int .i64 k, .int .i64 p, .int .i64 t, .int .i64 m, .int .i64 a, .int .i64 q, .string pa, .string da]] w
      fun e w' => e = .returned (.int .i64 0) ∧ Ext w w' := by
  have HB := Lib.hid (fun W => ref_bare k p t m a q pa da W h)
  have k0 : 0 ≤ k := h.kind.1
  have k1 : k ≤ 12 := by have : k < 13 := h.kind.2; omega
  have p0 : 0 ≤ p := h.peer.1
  have p1 : p ≤ 63 := by have : p < n := h.peer.2; omega
  have t0 : 0 ≤ t := h.tow.1
  have t1 : t ≤ 63 := by have : t < n := h.tow.2; omega
  have HN := Lib.hid (fun W => ref_num m W h.num.1 (by have : m ≤ 70 := h.num.2; omega))
  have HA := Lib.hid (fun W => ref_num a W h.at_.1 (by have : a ≤ 60 := h.at_.2; omega))
  have HQ := Lib.hid (fun W => ref_num q W h.mask.1 (by have : q ≤ 1048576 := h.mask.2; omega))
  have s1 : (pa.size : Int) ≤ 255 := by have : pa.size ≤ 5 := h.path; omega
  have s2 : (da.size : Int) ≤ 255 := by have : da.size ≤ 1 := h.data; omega
  have hx := OpAt.new w ⟨k, p, t, m, a, q, pa, da⟩
  have he := (Ext.refl w).alloc (.cells (opCells ⟨k, p, t, m, a, q, pa, da⟩) 43)
  have HX := Lib.hid hx
  have HE := Lib.hid he
  clear h hx he
  go_enter Try.func15, Try.ntmps15
  go_wp2_with fail
  refine (HN.out _).mono ?_
  rintro e w1 ⟨rfl, rfl⟩
  go_wp2_with fail
  refine (HA.out _).mono ?_
  rintro e w1 ⟨rfl, rfl⟩
  go_wp2_with fail
  refine (HQ.out _).mono ?_
  rintro e w1 ⟨rfl, rfl⟩
  go_wp2_with fail
  have hWl : (w.alloc (.cells #[.int .i64 k, .int .i64 p, .int .i64 t, .int .i64 m, .int .i64 a, .int .i64 q, .string pa, .string da] 43)) = (w.alloc (.cells (opCells ⟨k, p, t, m, a, q, pa, da⟩) 43)) := rfl
  rw [hWl]
  clear hWl
  generalize (w.alloc (.cells (opCells ⟨k, p, t, m, a, q, pa, da⟩) 43)) = w1 at *
  obtain ⟨c0, c1, c2, c3, c4, c5, c6, c7⟩ := OpAt.cs HX.out
  have e0 := cell_ext c0
  have e1 := cell_ext c1
  have e2 := cell_ext c2
  have e3 := cell_ext c3
  have e4 := cell_ext c4
  have e5 := cell_ext c5
  have e6 := cell_ext c6
  have e7 := cell_ext c7
  clear c0 c1 c2 c3 c4 c5 c6 c7
  refine wp_region_quiet_ext (by kernel_rfl) (by kernel_rfl) ?_
  repeat (go_big_quiet_step ((first
    | (go_at_call 30; exact calls_ext (HB.out _)))))
  refine wpQuiet_nil ?_
  intro w4 g4
  go_wp2_with fail
  go_ret
  exact ⟨rfl, HE.out.trans g4⟩
end Go.Proofs.Ytcnjklbmlplehaa
