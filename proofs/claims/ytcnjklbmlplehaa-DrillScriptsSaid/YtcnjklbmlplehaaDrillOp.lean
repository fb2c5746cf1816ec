/- An operation that is drawn. -/
import Derived.Test.YtcnjklbmlplehaaDrillNums
import Derived.Deep.RegionHeld3
import Derived.Deep.RegionLaw
import Derived.Deep.CutRange
namespace Go.Proofs.Ytcnjklbmlplehaa
open Go.RowKit


/-- What is known behind the draw of a kind and a peer: the box lies there already, or does not yet. -/
theorem op_late {w1 W : World} {D R : Nat} {s : Int} {g : Value} (x : OpV) (hd : Drawer W D s g) (hg : w1.grownBy W (some D)) (hr : OpAt W R opZero) :
    OpAt (W.alloc (.cells (opCells x) 43)) W.heap.size x ∧ OpAt (W.alloc (.cells (opCells x) 43)) R opZero ∧ Drawer (W.alloc (.cells (opCells x) 43)) D s g ∧ w1.grownBy (W.alloc (.cells (opCells x) 43)) (some D) ∧ w1.heap.size ≤ W.heap.size :=
  ⟨OpAt.new W x, hr.ext ((Ext.refl W).alloc _), Two.ext hd ((Ext.refl W).alloc _), grown_more hg (grown_new W _ D), hg.size⟩
theorem op_early {w1 W : World} {D R X : Nat} {s : Int} {g : Value} (k p : Int) (hd : Drawer W D s g) (hg : w1.grownBy W (some D)) (hr : OpAt W R opZero) (hz : OpAt W X opZero) (hX : w1.heap.size ≤ X) (hD : D < w1.heap.size) (hR : R < w1.heap.size) :
    OpAt ((((((((W.setCell ⟨X, 0, none⟩ (.int .i64 k)).setCell ⟨X, 1, none⟩ (.int .i64 p)).setCell ⟨X, 2, none⟩ (.int .i64 0)).setCell ⟨X, 3, none⟩ (.int .i64 0)).setCell ⟨X, 4, none⟩ (.int .i64 0)).setCell ⟨X, 5, none⟩ (.int .i64 0)).setCell ⟨X, 6, none⟩ (.string ⟨#[]⟩)).setCell ⟨X, 7, none⟩ (.string ⟨#[]⟩)) X ⟨k, p, 0, 0, 0, 0, ⟨#[]⟩, ⟨#[]⟩⟩ ∧
    OpAt ((((((((W.setCell ⟨X, 0, none⟩ (.int .i64 k)).setCell ⟨X, 1, none⟩ (.int .i64 p)).setCell ⟨X, 2, none⟩ (.int .i64 0)).setCell ⟨X, 3, none⟩ (.int .i64 0)).setCell ⟨X, 4, none⟩ (.int .i64 0)).setCell ⟨X, 5, none⟩ (.int .i64 0)).setCell ⟨X, 6, none⟩ (.string ⟨#[]⟩)).setCell ⟨X, 7, none⟩ (.string ⟨#[]⟩)) R opZero ∧
    Drawer ((((((((W.setCell ⟨X, 0, none⟩ (.int .i64 k)).setCell ⟨X, 1, none⟩ (.int .i64 p)).setCell ⟨X, 2, none⟩ (.int .i64 0)).setCell ⟨X, 3, none⟩ (.int .i64 0)).setCell ⟨X, 4, none⟩ (.int .i64 0)).setCell ⟨X, 5, none⟩ (.int .i64 0)).setCell ⟨X, 6, none⟩ (.string ⟨#[]⟩)).setCell ⟨X, 7, none⟩ (.string ⟨#[]⟩)) D s g ∧
    w1.grownBy ((((((((W.setCell ⟨X, 0, none⟩ (.int .i64 k)).setCell ⟨X, 1, none⟩ (.int .i64 p)).setCell ⟨X, 2, none⟩ (.int .i64 0)).setCell ⟨X, 3, none⟩ (.int .i64 0)).setCell ⟨X, 4, none⟩ (.int .i64 0)).setCell ⟨X, 5, none⟩ (.int .i64 0)).setCell ⟨X, 6, none⟩ (.string ⟨#[]⟩)).setCell ⟨X, 7, none⟩ (.string ⟨#[]⟩)) (some D) ∧ w1.heap.size ≤ X :=
  have he := num_end hd hg hX (b := X) (by omega) (.int .i64 k) (.int .i64 p) (.int .i64 0) (.int .i64 0) (.int .i64 0) (.int .i64 0) (.string ⟨#[]⟩) (.string ⟨#[]⟩)
  have hk : ∀ {V : World} (_ : OpAt V R opZero) (i : Nat) (v : Value), OpAt (V.setCell ⟨X, i, none⟩ v) R opZero := fun h i v => h.grown (grown_setCell _ X i v) (by omega)
  ⟨OpAt.all hz k p 0 0 0 0 ⟨#[]⟩ ⟨#[]⟩, hk (hk (hk (hk (hk (hk (hk (hk hr 0 _) 1 _) 2 _) 3 _) 4 _) 5 _) 6 _) 7 _, he.1, he.2, hX⟩

set_option maxRecDepth 100000 in
set_option maxHeartbeats 8000000 in
theorem draw_op (D : Nat) (s : Int) (B n c : Nat) (adj : Nat → Nat → Bool) (pt : Option Addr) (t : ByteArray) (ht : DR.Low t) (w0 w : World) (hG : GraphAt w0 B n adj pt c) (hx : Ext w0 w) (hD0 : w0.heap.size ≤ D) (h : Drawer w D s (.pointer (some ⟨B, 0, none⟩))) :
    Calls Try.prog 18 #[.pointer (some ⟨D, 0, none⟩), .string t] w fun e w' => e = .returned (DR.opOf (GR.near n adj) n t s).1.v ∧ Drawer w' D (DR.opOf (GR.near n adj) n t s).2 (.pointer (some ⟨B, 0, none⟩)) ∧ w.grownBy w' (some D) := by
  rw [DR.opOf_eq]
  have HTO0 := Lib.hid (fun s (q : Nat) W (hW : Ext w0 W) (hd : Drawer W D s (.pointer (some ⟨B, 0, none⟩))) (h0 : GR.near n adj q = []) => draw_to_none D s B n c adj pt q w0 W hG hW hd h0)
  have HTO1 := Lib.hid (fun s (q : Nat) W (hW : Ext w0 W) (hd : Drawer W D s (.pointer (some ⟨B, 0, none⟩))) (h0 : 0 < (GR.near n adj q).length) => draw_to_some D s B n c adj pt q w0 W hG hW hd h0)
  have hDl := Two.lt h
  have hn1 := hG.pos
  have hn2 := hG.le
  have HK := Lib.hid (fun W (hW : Ext w W) => draw_kind D s _ t W (Two.ext h hW) ht)
  have HP := Lib.hid (fun W (hW : Ext w0 W) => graph_peers B n W (hW.cell hG.two.c0))
  have HB := Lib.hid (fun s1 W (hd : Drawer W D s1 (.pointer (some ⟨B, 0, none⟩))) => draw_below D s1 n _ W hd (by omega) (by omega))
  have hkb := DR.kind_bounds ht s
  have HX := Lib.hid hx
  have HH := Lib.hid h
  clear h ht hG hx
  generalize DR.kindOf t s = k at *
  generalize hs1 : DR.nxt s = s1 at *
  have HB1 := Lib.hid (HB.out s1)
  have hpb := DR.bel_bounds s1 n (by omega)
  generalize DR.bel s1 n = p at *
  generalize hs2 : DR.nxt s1 = s2 at *
  have hz := OpAt.new w opZero
  have hx1 : Ext w (w.alloc (.cells (opCells opZero) 43)) := (Ext.refl w).alloc _
  have hl1 : (w.alloc (.cells (opCells opZero) 43)).heap.size = w.heap.size + 1 := World.size_alloc _ _
  generalize GR.near n adj = L at *
  go_enter Try.func18, Try.ntmps18
  go_upto_region 1 with fail
  have hwe : (w.alloc (.cells (opCells opZero) 43)) = (w.alloc (.cells #[.int .i64 0, .int .i64 0, .int .i64 0, .int .i64 0, .int .i64 0, .int .i64 0, .string ⟨#[]⟩, .string ⟨#[]⟩] 43)) := rfl
  rw [hwe] at hz hx1 hl1
  clear hwe
  generalize (w.alloc (.cells #[.int .i64 0, .int .i64 0, .int .i64 0, .int .i64 0, .int .i64 0, .int .i64 0, .string ⟨#[]⟩, .string ⟨#[]⟩] 43)) = w1 at *
  have hDw1 : D < w1.heap.size := by omega
  have hRw1 : w.heap.size < w1.heap.size := by omega
  clear hl1
  go_cut [5] from 8 to 18 (fun x W => ∃ X, x = .pointer (some ⟨X, 0, none⟩) ∧ OpAt W X ⟨k, p, 0, 0, 0, 0, ⟨#[]⟩, ⟨#[]⟩⟩ ∧ OpAt W w.heap.size opZero ∧ Drawer W D s2 (.pointer (some ⟨B, 0, none⟩)) ∧ w1.grownBy W (some D) ∧ w1.heap.size ≤ X)
  case first =>
    have cd1 : w1.cell? ⟨D, 1, none⟩ = some (.pointer (some ⟨B, 0, none⟩)) := hx1.cell (Two.c1 HH.out)
    have cd2 : (w1.alloc (.cells #[.int .i64 0, .int .i64 0, .int .i64 0, .int .i64 0, .int .i64 0, .int .i64 0, .string ⟨#[]⟩, .string ⟨#[]⟩] 43)).cell? ⟨D, 1, none⟩ = some (.pointer (some ⟨B, 0, none⟩)) := ((Ext.refl w1).alloc (.cells (opCells opZero) 43)).cell cd1
    have hx1r : Ext w1 w1.drew := (Ext.refl _).drew
    have hx1s : Ext w1 (w1.alloc (.cells (opCells opZero) 43)).drew := ((Ext.refl _).alloc _).drew
    refine wp_region_noPanic ?_
    go_region_with (first
      | (go_at_call 33; refine (HK.out _ hx1.drew).mono ?_; rintro e w5 ⟨rfl, hd5, hg5⟩; have c5 := Two.c1 hd5; have x5 := ext_grownBy (HX.out.trans hx1.drew) hg5 hD0; have hgA : w1.grownBy w5 (some D) := grown_more (grown_of_ext (Ext.refl _).drew D) hg5; have c5b : (w5.alloc (.cells #[.int .i64 0, .int .i64 0, .int .i64 0, .int .i64 0, .int .i64 0, .int .i64 0, .string ⟨#[]⟩, .string ⟨#[]⟩] 43)).cell? ⟨D, 1, none⟩ = some (.pointer (some ⟨B, 0, none⟩)) := ((Ext.refl w5).alloc (.cells (opCells opZero) 43)).cell c5; have hDw : D < w5.heap.size := Two.lt hd5; have tokA : True := trivial)
      | (go_at_call 33; refine (HK.out _ (hx1.alloc _).drew).mono ?_; rintro e w5 ⟨rfl, hd5, hg5⟩; have c5 := Two.c1 hd5; have x5 := ext_grownBy (HX.out.trans (hx1.alloc _).drew) hg5 hD0; have hgB : w1.grownBy w5 (some D) := grown_more (grown_of_ext ((Ext.refl w1).alloc (.cells (opCells opZero) 43)).drew D) hg5; have tokB : True := trivial)
      | (go_at_call 35; refine (HP.out _ x5).mono ?_; rintro e w6 ⟨rfl, rfl⟩)
      | (go_at_call 35; refine (HP.out _ (x5.alloc _)).mono ?_; rintro e w6 ⟨rfl, rfl⟩)
      | (go_at_call 34; have _t := tokA; refine (HB1.out _ hd5).mono ?_; rintro e w7 ⟨rfl, h7⟩; have hs7 := grown_setCell w5 D 0 (.int .i64 s2); have hd7 := Two.set0 hd5 (.int .i64 s2); have hr7 := ((hz.ext hx1r).grown hg5 (by omega)).grown hs7 (by omega); have hg7 := grown_more (hgA) hs7; rw [← h7] at hd7 hr7 hg7; clear h7; have HL := Lib.hid (op_late ⟨k, p, 0, 0, 0, 0, ⟨#[]⟩, ⟨#[]⟩⟩ hd7 hg7 hr7))
      | (go_at_call 34; have _t := tokB; refine (HB1.out _ hd5).mono ?_; rintro e w7 ⟨rfl, h7⟩; have hs7 := grown_setCell w5 D 0 (.int .i64 s2); have hd7 := Two.set0 hd5 (.int .i64 s2); have hr7 := ((hz.ext hx1s).grown hg5 (by omega)).grown hs7 (by omega); have hg7 := grown_more (hgB) hs7; have hz7 := (((OpAt.new w1 opZero).ext (Ext.refl _).drew).grown hg5 (by omega)).grown hs7 (by omega); rw [← h7] at hd7 hr7 hg7 hz7; clear h7; obtain ⟨c0, c1, c2, c3, c4, c5, c6, c7⟩ := OpAt.cs hz7; obtain ⟨f0, f1, f2, f3, f4, f5, f6, f7⟩ := OpAt.fs hz7; have HL := Lib.hid (op_early k p hd7 hg7 hr7 hz7 (Nat.le_refl _) (by omega) (by omega)))
      | (go_at_call 34; have _t := tokA; refine (HB1.out _ (Two.ext hd5 ((Ext.refl _).alloc _))).mono ?_; rintro e w7 ⟨rfl, h7⟩; have hs7 := grown_setCell (w5.alloc (.cells (opCells opZero) 43)) D 0 (.int .i64 s2); have hd7 := Two.set0 (Two.ext hd5 ((Ext.refl _).alloc (.cells (opCells opZero) 43))) (.int .i64 s2); have hr7 := (((hz.ext hx1r).grown hg5 (by omega)).ext ((Ext.refl _).alloc (.cells (opCells opZero) 43))).grown hs7 (by omega); have hg7 := grown_more (grown_more hgA (grown_new w5 (.cells (opCells opZero) 43) D)) hs7; have hz7 := (OpAt.new w5 opZero).grown hs7 (by omega); have h7' : w7 = (w5.alloc (.cells (opCells opZero) 43)).setCell ⟨D, 0, none⟩ (.int .i64 s2) := h7; rw [← h7'] at hd7 hr7 hg7 hz7; clear h7 h7'; obtain ⟨c0, c1, c2, c3, c4, c5, c6, c7⟩ := OpAt.cs hz7; obtain ⟨f0, f1, f2, f3, f4, f5, f6, f7⟩ := OpAt.fs hz7; have HL := Lib.hid (op_early k p hd7 hg7 hr7 hz7 hgA.size (by omega) (by omega))))
    all_goals
      refine NoPanic.normal ?_
      go_wp2_with fail
      go_meet
      exact ⟨_, rfl, HL.out⟩
  case rest =>
  obtain ⟨X, rfl, hX, hR, hd, hg, hXl⟩ := hcut
  have x0 : Ext w0 wc := ext_grownBy (HX.out.trans hx1) hg hD0
  have hgw : w.grownBy wc (some D) := grown_more (grown_of_ext hx1 D) hg
  clear HK HP HB HB1 hz hs1 hs2 HX hx1 hg HH
  have hXR : X ≠ w.heap.size := by omega
  have hXD : D ≠ X := by omega
  have hwX : w.heap.size ≤ X := by omega
  clear hXl hDw1 hRw1
  by_cases hk0 : k = 0
  · subst hk0
    have HPA := Lib.hid (draw_path D s2 _ wc hd)
    obtain ⟨cx0, cx1, cx2, cx3, cx4, cx5, cx6, cx7⟩ := hX.cs
    go_wp2_with fail
    refine HPA.out.mono ?_
    rintro e w2 ⟨rfl, hd2, hg2⟩
    have hX2 := hX.grown hg2 (by omega)
    have hR2 := hR.grown hg2 (by omega)
    have hg2' := grown_more hgw hg2
    have hX3 := hX2.setP (DR.pathOf s2)
    have hs2 := grown_setCell w2 X 6 (.string (DR.pathOf s2))
    have hR3 := hR2.grown hs2 (by omega)
    have hd3 := hd2.keep (b := X) (by omega) 6 (.string (DR.pathOf s2))
    have hg3 := grown_keep hg2' (b := X) (by omega) 6 (.string (DR.pathOf s2))
    obtain ⟨fy0, fy1, fy2, fy3, fy4, fy5, fy6, fy7⟩ := hX2.fs
    obtain ⟨cy0, cy1, cy2, cy3, cy4, cy5, cy6, cy7⟩ := hX2.cs
    clear hX2 hR2 hg2' hs2 hd2 hX hR hd hgw cx0 cx1 cx2 cx3 cx4 cx5 cx6 cx7 HPA
    have HOP : Hid (∀ x, DR.opOf' L 0 p s2 = x → DR.opOf' L 0 p s2 = x) := Lib.hid fun _ h => h
    have hB := draw_below D (DR.pathEnd s2) 26 _ _ hd3 (by omega) (by omega)
    have hle : Utf8.encode (97 + DR.bel (DR.pathEnd s2) 26) = DR.letter (DR.pathEnd s2) 26 := rfl
    have hs4 := grown_setCell (w2.setCell ⟨X, 6, none⟩ (.string (DR.pathOf s2))) D 0 (.int .i64 (DR.nxt (DR.pathEnd s2)))
    have hX4 := hX3.grown hs4 (by omega)
    have hR4 := hR3.grown hs4 (by omega)
    have hd4 : Drawer _ D (DR.nxt (DR.pathEnd s2)) _ := Two.set0 hd3 (.int .i64 (DR.nxt (DR.pathEnd s2)))
    have hg4 := grown_more hg3 hs4
    clear hs4 hX3 hR3 hd3 hg3
    have hbb := DR.bel_bounds (DR.pathEnd s2) 26 (by omega)
    obtain ⟨W4, hW4⟩ : ∃ W, (w2.setCell ⟨X, 6, none⟩ (.string (DR.pathOf s2))).setCell ⟨D, 0, none⟩ (.int .i64 (DR.nxt (DR.pathEnd s2))) = W := ⟨_, rfl⟩
    rw [hW4] at hB hX4 hR4 hd4 hg4
    clear hW4
    have hX5 := hX4.setD (DR.letter (DR.pathEnd s2) 26)
    have hR5 := hR4.grown (grown_setCell W4 X 7 (.string (DR.letter (DR.pathEnd s2) 26))) (by omega)
    have hd5 := hd4.keep (b := X) (by omega) 7 (.string (DR.letter (DR.pathEnd s2) 26))
    have hg5 := grown_keep hg4 (b := X) (by omega) 7 (.string (DR.letter (DR.pathEnd s2) 26))
    obtain ⟨fw0, fw1, fw2, fw3, fw4, fw5, fw6, fw7⟩ := hX4.fs
    obtain ⟨cw0, cw1, cw2, cw3, cw4, cw5, cw6, cw7⟩ := hX4.cs
    clear hX4 hR4 hd4 hg4
    have HB := Lib.hid hB
    have HLE := Lib.hid hle
    have HEQ0 : Hid (∀ y, DR.numb (DR.nxt (DR.pathEnd s2)) ⟨0, p, 0, 0, 0, 0, DR.pathOf s2, DR.letter (DR.pathEnd s2) 26⟩ = y → DR.opOf' L 0 p s2 = y) := Lib.hid fun y h => by rw [DR.numb_plain _ _ (.inl rfl)] at h; rw [← h]; rfl
    clear hB hle HOP
    generalize DR.letter (DR.pathEnd s2) 26 = le at *
    generalize DR.nxt (DR.pathEnd s2) = s4 at *
    generalize DR.bel (DR.pathEnd s2) 26 = k1 at *
    generalize DR.pathOf s2 = pa at *
    go_wp2_with fail
    refine HB.out.mono ?_
    rintro e w5 ⟨rfl, hw5⟩
    subst hw5
    have hle := HLE.out
    clear HLE
    subst hle
    obtain ⟨⟨⟨y0, y1, y2, y3, y4, y5, y6, y7⟩, s9⟩, hz⟩ : ∃ z, DR.numb s4 ⟨0, p, 0, 0, 0, 0, pa, (Utf8.encode (97 + k1))⟩ = z := ⟨_, rfl⟩
    have HEQ : Hid (DR.opOf' L 0 p s2 = (⟨y0, y1, y2, y3, y4, y5, y6, y7⟩, s9)) := Lib.hid (by rw [← hz]; exact HEQ0.out _ rfl)
    have HNUM := Lib.hid (draw_numbers' D s4 (.pointer (some ⟨B, 0, none⟩)) 0 p 0 0 0 0 pa (Utf8.encode (97 + k1)) _ hd5 hz)
    obtain ⟨cz0, cz1, cz2, cz3, cz4, cz5, cz6, cz7⟩ := OpAt.cs hX5
    clear hz
    go_wp2_with fail
    refine HNUM.out.mono ?_
    rintro e w9 ⟨rfl, hd9, hg9⟩
    have hR9 := OpAt.grown hR5 hg9 (by omega)
    obtain ⟨q0, q1, q2, q3, q4, q5, q6, q7⟩ := OpAt.cs hR9
    obtain ⟨e0, e1, e2, e3, e4, e5, e6, e7⟩ := OpAt.fs hR9
    have HT := Lib.hid (OpAt.all hR9 y0 y1 y2 y3 y4 y5 y6 y7)
    have HE := Lib.hid (num_end hd9 (grown_more hg5 hg9) (b := w.heap.size) (Nat.le_refl _) (by omega) (.int .i64 y0) (.int .i64 y1) (.int .i64 y2) (.int .i64 y3) (.int .i64 y4) (.int .i64 y5) (.string y6) (.string y7))
    clear hd9 hg9 hR9 cz0 cz1 cz2 cz3 cz4 cz5 cz6 cz7 HNUM
    go_wp2_with fail
    refine bodyPost_ret (results_cell_row rfl _ _ (w.heap.size) _ _ _ _ rfl HT.out Try.underlying43 rfl (by kernel_rfl)) rfl ?_
    rw [HEQ.out]
    exact ⟨rfl, HE.out.1, HE.out.2⟩
  by_cases hk1 : k = 1
  · subst hk1
    have HPA := Lib.hid (draw_path D s2 _ wc hd)
    obtain ⟨cx0, cx1, cx2, cx3, cx4, cx5, cx6, cx7⟩ := hX.cs
    go_wp2_with fail
    refine HPA.out.mono ?_
    rintro e w2 ⟨rfl, hd2, hg2⟩
    have hX2 := hX.grown hg2 (by omega)
    have hR2 := hR.grown hg2 (by omega)
    have hg2' := grown_more hgw hg2
    have hX3 := hX2.setP (DR.pathOf s2)
    have hs2 := grown_setCell w2 X 6 (.string (DR.pathOf s2))
    have hR3 := hR2.grown hs2 (by omega)
    have hd3 := hd2.keep (b := X) (by omega) 6 (.string (DR.pathOf s2))
    have hg3 := grown_keep hg2' (b := X) (by omega) 6 (.string (DR.pathOf s2))
    obtain ⟨fy0, fy1, fy2, fy3, fy4, fy5, fy6, fy7⟩ := hX2.fs
    obtain ⟨cy0, cy1, cy2, cy3, cy4, cy5, cy6, cy7⟩ := hX2.cs
    clear hX2 hR2 hg2' hs2 hd2 hX hR hd hgw cx0 cx1 cx2 cx3 cx4 cx5 cx6 cx7 HPA
    have HOP : Hid (∀ x, DR.opOf' L 1 p s2 = x → DR.opOf' L 1 p s2 = x) := Lib.hid fun _ h => h
    have HEQ0 : Hid (∀ y, DR.numb (DR.pathEnd s2) ⟨1, p, 0, 0, 0, 0, DR.pathOf s2, ⟨#[]⟩⟩ = y → DR.opOf' L 1 p s2 = y) := Lib.hid fun y h => by rw [DR.numb_plain _ _ (.inr rfl)] at h; rw [← h]; rfl
    clear HOP
    generalize DR.pathOf s2 = pa at *
    generalize DR.pathEnd s2 = s4 at *
    obtain ⟨⟨⟨y0, y1, y2, y3, y4, y5, y6, y7⟩, s9⟩, hz⟩ : ∃ z, DR.numb s4 ⟨1, p, 0, 0, 0, 0, pa, ⟨#[]⟩⟩ = z := ⟨_, rfl⟩
    have HEQ : Hid (DR.opOf' L 1 p s2 = (⟨y0, y1, y2, y3, y4, y5, y6, y7⟩, s9)) := Lib.hid (by rw [← hz]; exact HEQ0.out _ rfl)
    have HNUM := Lib.hid (draw_numbers' D s4 (.pointer (some ⟨B, 0, none⟩)) 1 p 0 0 0 0 pa ⟨#[]⟩ _ hd3 hz)
    obtain ⟨cz0, cz1, cz2, cz3, cz4, cz5, cz6, cz7⟩ := OpAt.cs hX3
    clear hz
    go_wp2_with fail
    refine HNUM.out.mono ?_
    rintro e w9 ⟨rfl, hd9, hg9⟩
    have hR9 := OpAt.grown hR3 hg9 (by omega)
    obtain ⟨q0, q1, q2, q3, q4, q5, q6, q7⟩ := OpAt.cs hR9
    obtain ⟨e0, e1, e2, e3, e4, e5, e6, e7⟩ := OpAt.fs hR9
    have HT := Lib.hid (OpAt.all hR9 y0 y1 y2 y3 y4 y5 y6 y7)
    have HE := Lib.hid (num_end hd9 (grown_more hg3 hg9) (b := w.heap.size) (Nat.le_refl _) (by omega) (.int .i64 y0) (.int .i64 y1) (.int .i64 y2) (.int .i64 y3) (.int .i64 y4) (.int .i64 y5) (.string y6) (.string y7))
    clear hd9 hg9 hR9 cz0 cz1 cz2 cz3 cz4 cz5 cz6 cz7 HNUM
    go_wp2_with fail
    refine bodyPost_ret (results_cell_row rfl _ _ (w.heap.size) _ _ _ _ rfl HT.out Try.underlying43 rfl (by kernel_rfl)) rfl ?_
    rw [HEQ.out]
    exact ⟨rfl, HE.out.1, HE.out.2⟩
  by_cases hk4 : k = 4
  · subst hk4
    obtain ⟨q, rfl⟩ : ∃ q : Nat, p = (q : Int) := ⟨p.toNat, by omega⟩
    obtain ⟨cx0, cx1, cx2, cx3, cx4, cx5, cx6, cx7⟩ := hX.cs
    by_cases hL : L q = []
    · have HTO := Lib.hid (HTO0.out s2 q wc x0 hd hL)
      have HEQ : Hid (DR.opOf' L 4 (q : Int) s2 = (⟨2, q, 0, 1, 0, 0, ⟨#[]⟩, ⟨#[]⟩⟩, s2)) := Lib.hid (by
        unfold DR.opOf'
        rw [if_neg (by omega), if_neg (by omega), if_pos (by omega), Int.toNat_natCast, if_pos hL])
      have HH := Lib.hid (And.intro hX (And.intro hR hgw))
      clear HTO0 HTO1 x0 hX hR hgw
      go_wp2_with fail
      refine HTO.out.mono ?_
      rintro e w9 ⟨rfl, hd9, hg9⟩
      have hX9 := HH.out.1.grown hg9 (by omega)
      have hR9 := HH.out.2.1.grown hg9 (by omega)
      obtain ⟨cz0, cz1, cz2, cz3, cz4, cz5, cz6, cz7⟩ := OpAt.cs hX9
      obtain ⟨q0, q1, q2, q3, q4, q5, q6, q7⟩ := OpAt.cs hR9
      obtain ⟨e0, e1, e2, e3, e4, e5, e6, e7⟩ := OpAt.fs hR9
      have HT := Lib.hid (OpAt.all hR9 2 q 0 1 0 0 ⟨#[]⟩ ⟨#[]⟩)
      have HE := Lib.hid (num_end hd9 (grown_more HH.out.2.2 hg9) (b := w.heap.size) (Nat.le_refl _) (by omega) (.int .i64 2) (.int .i64 q) (.int .i64 0) (.int .i64 1) (.int .i64 0) (.int .i64 0) (.string ⟨#[]⟩) (.string ⟨#[]⟩))
      clear hd9 hg9 hR9 hX9 HTO
      go_wp2_with fail
      refine bodyPost_ret (results_cell_row rfl _ _ (w.heap.size) _ _ _ _ rfl HT.out Try.underlying43 rfl (by kernel_rfl)) rfl ?_
      rw [HEQ.out]
      exact ⟨rfl, HE.out.1, HE.out.2⟩
    · have hL0 : 0 < (L q).length := List.length_pos_iff.2 hL
      have HTO := Lib.hid (HTO1.out s2 q wc x0 hd hL0)
      have HEQ0 : Hid (∀ y, DR.numb (DR.nxt s2) ⟨4, q, (DR.toOf (L q) s2 : Nat), 0, 0, 0, ⟨#[]⟩, ⟨#[]⟩⟩ = y → DR.opOf' L 4 (q : Int) s2 = y) := Lib.hid (fun y h => by
        rw [← h]
        unfold DR.opOf'
        rw [if_neg (by omega), if_neg (by omega), if_pos (by omega), Int.toNat_natCast, if_neg hL])
      have HH := Lib.hid (And.intro hX (And.intro hR hgw))
      clear HTO0 HTO1 x0 hX hR hgw hd hL0
      generalize DR.toOf (L q) s2 = tq at *
      generalize hs3 : DR.nxt s2 = s3 at *
      clear hs3
      go_wp2_with fail
      refine HTO.out.mono ?_
      rintro e w2 ⟨rfl, hd2, hg2⟩
      have hX2 := HH.out.1.grown hg2 (by omega)
      have hR2 := HH.out.2.1.grown hg2 (by omega)
      have hg2' := grown_more HH.out.2.2 hg2
      have hX3 := hX2.setT (tq : Int)
      have hR3 := hR2.grown (grown_setCell w2 X 2 (.int .i64 (tq : Int))) (by omega)
      have hd3 := hd2.keep (b := X) (by omega) 2 (.int .i64 (tq : Int))
      have hg3 := grown_keep hg2' (b := X) (by omega) 2 (.int .i64 (tq : Int))
      obtain ⟨fy0, fy1, fy2, fy3, fy4, fy5, fy6, fy7⟩ := hX2.fs
      obtain ⟨cy0, cy1, cy2, cy3, cy4, cy5, cy6, cy7⟩ := hX2.cs
      clear hX2 hR2 hg2' hd2 hg2 cx0 cx1 cx2 cx3 cx4 cx5 cx6 cx7 HTO
      obtain ⟨⟨⟨y0, y1, y2, y3, y4, y5, y6, y7⟩, s9⟩, hz⟩ : ∃ z, DR.numb s3 ⟨4, (q : Int), (tq : Int), 0, 0, 0, ⟨#[]⟩, ⟨#[]⟩⟩ = z := ⟨_, rfl⟩
      have HEQ : Hid (DR.opOf' L 4 (q : Int) s2 = (⟨y0, y1, y2, y3, y4, y5, y6, y7⟩, s9)) := Lib.hid (by rw [← hz]; exact HEQ0.out _ rfl)
      have HNUM := Lib.hid (draw_numbers' D s3 (.pointer (some ⟨B, 0, none⟩)) 4 (q : Int) (tq : Int) 0 0 0 ⟨#[]⟩ ⟨#[]⟩ _ hd3 hz)
      obtain ⟨cz0, cz1, cz2, cz3, cz4, cz5, cz6, cz7⟩ := OpAt.cs hX3
      clear hz
      go_wp2_with fail
      refine HNUM.out.mono ?_
      rintro e w9 ⟨rfl, hd9, hg9⟩
      have hR9 := OpAt.grown hR3 hg9 (by omega)
      obtain ⟨q0, q1, q2, q3, q4, q5, q6, q7⟩ := OpAt.cs hR9
      obtain ⟨e0, e1, e2, e3, e4, e5, e6, e7⟩ := OpAt.fs hR9
      have HT := Lib.hid (OpAt.all hR9 y0 y1 y2 y3 y4 y5 y6 y7)
      have HE := Lib.hid (num_end hd9 (grown_more hg3 hg9) (b := w.heap.size) (Nat.le_refl _) (by omega) (.int .i64 y0) (.int .i64 y1) (.int .i64 y2) (.int .i64 y3) (.int .i64 y4) (.int .i64 y5) (.string y6) (.string y7))
      clear hd9 hg9 hR9 cz0 cz1 cz2 cz3 cz4 cz5 cz6 cz7 HNUM
      go_wp2_with fail
      refine bodyPost_ret (results_cell_row rfl _ _ (w.heap.size) _ _ _ _ rfl HT.out Try.underlying43 rfl (by kernel_rfl)) rfl ?_
      rw [HEQ.out]
      exact ⟨rfl, HE.out.1, HE.out.2⟩
  by_cases hk5 : k = 5
  · subst hk5
    obtain ⟨q, rfl⟩ : ∃ q : Nat, p = (q : Int) := ⟨p.toNat, by omega⟩
    obtain ⟨cx0, cx1, cx2, cx3, cx4, cx5, cx6, cx7⟩ := hX.cs
    by_cases hL : L q = []
    · have HTO := Lib.hid (HTO0.out s2 q wc x0 hd hL)
      have HEQ : Hid (DR.opOf' L 5 (q : Int) s2 = (⟨2, q, 0, 1, 0, 0, ⟨#[]⟩, ⟨#[]⟩⟩, s2)) := Lib.hid (by
        unfold DR.opOf'
        rw [if_neg (by omega), if_neg (by omega), if_pos (by omega), Int.toNat_natCast, if_pos hL])
      have HH := Lib.hid (And.intro hX (And.intro hR hgw))
      clear HTO0 HTO1 x0 hX hR hgw
      go_wp2_with fail
      refine HTO.out.mono ?_
      rintro e w9 ⟨rfl, hd9, hg9⟩
      have hX9 := HH.out.1.grown hg9 (by omega)
      have hR9 := HH.out.2.1.grown hg9 (by omega)
      obtain ⟨cz0, cz1, cz2, cz3, cz4, cz5, cz6, cz7⟩ := OpAt.cs hX9
      obtain ⟨q0, q1, q2, q3, q4, q5, q6, q7⟩ := OpAt.cs hR9
      obtain ⟨e0, e1, e2, e3, e4, e5, e6, e7⟩ := OpAt.fs hR9
      have HT := Lib.hid (OpAt.all hR9 2 q 0 1 0 0 ⟨#[]⟩ ⟨#[]⟩)
      have HE := Lib.hid (num_end hd9 (grown_more HH.out.2.2 hg9) (b := w.heap.size) (Nat.le_refl _) (by omega) (.int .i64 2) (.int .i64 q) (.int .i64 0) (.int .i64 1) (.int .i64 0) (.int .i64 0) (.string ⟨#[]⟩) (.string ⟨#[]⟩))
      clear hd9 hg9 hR9 hX9 HTO
      go_wp2_with fail
      refine bodyPost_ret (results_cell_row rfl _ _ (w.heap.size) _ _ _ _ rfl HT.out Try.underlying43 rfl (by kernel_rfl)) rfl ?_
      rw [HEQ.out]
      exact ⟨rfl, HE.out.1, HE.out.2⟩
    · have hL0 : 0 < (L q).length := List.length_pos_iff.2 hL
      have HTO := Lib.hid (HTO1.out s2 q wc x0 hd hL0)
      have HEQ0 : Hid (∀ y, DR.numb (DR.nxt s2) ⟨5, q, (DR.toOf (L q) s2 : Nat), 0, 0, 0, ⟨#[]⟩, ⟨#[]⟩⟩ = y → DR.opOf' L 5 (q : Int) s2 = y) := Lib.hid (fun y h => by
        rw [← h]
        unfold DR.opOf'
        rw [if_neg (by omega), if_neg (by omega), if_pos (by omega), Int.toNat_natCast, if_neg hL])
      have HH := Lib.hid (And.intro hX (And.intro hR hgw))
      clear HTO0 HTO1 x0 hX hR hgw hd hL0
      generalize DR.toOf (L q) s2 = tq at *
      generalize hs3 : DR.nxt s2 = s3 at *
      clear hs3
      go_wp2_with fail
      refine HTO.out.mono ?_
      rintro e w2 ⟨rfl, hd2, hg2⟩
      have hX2 := HH.out.1.grown hg2 (by omega)
      have hR2 := HH.out.2.1.grown hg2 (by omega)
      have hg2' := grown_more HH.out.2.2 hg2
      have hX3 := hX2.setT (tq : Int)
      have hR3 := hR2.grown (grown_setCell w2 X 2 (.int .i64 (tq : Int))) (by omega)
      have hd3 := hd2.keep (b := X) (by omega) 2 (.int .i64 (tq : Int))
      have hg3 := grown_keep hg2' (b := X) (by omega) 2 (.int .i64 (tq : Int))
      obtain ⟨fy0, fy1, fy2, fy3, fy4, fy5, fy6, fy7⟩ := hX2.fs
      obtain ⟨cy0, cy1, cy2, cy3, cy4, cy5, cy6, cy7⟩ := hX2.cs
      clear hX2 hR2 hg2' hd2 hg2 cx0 cx1 cx2 cx3 cx4 cx5 cx6 cx7 HTO
      obtain ⟨⟨⟨y0, y1, y2, y3, y4, y5, y6, y7⟩, s9⟩, hz⟩ : ∃ z, DR.numb s3 ⟨5, (q : Int), (tq : Int), 0, 0, 0, ⟨#[]⟩, ⟨#[]⟩⟩ = z := ⟨_, rfl⟩
      have HEQ : Hid (DR.opOf' L 5 (q : Int) s2 = (⟨y0, y1, y2, y3, y4, y5, y6, y7⟩, s9)) := Lib.hid (by rw [← hz]; exact HEQ0.out _ rfl)
      have HNUM := Lib.hid (draw_numbers' D s3 (.pointer (some ⟨B, 0, none⟩)) 5 (q : Int) (tq : Int) 0 0 0 ⟨#[]⟩ ⟨#[]⟩ _ hd3 hz)
      obtain ⟨cz0, cz1, cz2, cz3, cz4, cz5, cz6, cz7⟩ := OpAt.cs hX3
      clear hz
      go_wp2_with fail
      refine HNUM.out.mono ?_
      rintro e w9 ⟨rfl, hd9, hg9⟩
      have hR9 := OpAt.grown hR3 hg9 (by omega)
      obtain ⟨q0, q1, q2, q3, q4, q5, q6, q7⟩ := OpAt.cs hR9
      obtain ⟨e0, e1, e2, e3, e4, e5, e6, e7⟩ := OpAt.fs hR9
      have HT := Lib.hid (OpAt.all hR9 y0 y1 y2 y3 y4 y5 y6 y7)
      have HE := Lib.hid (num_end hd9 (grown_more hg3 hg9) (b := w.heap.size) (Nat.le_refl _) (by omega) (.int .i64 y0) (.int .i64 y1) (.int .i64 y2) (.int .i64 y3) (.int .i64 y4) (.int .i64 y5) (.string y6) (.string y7))
      clear hd9 hg9 hR9 cz0 cz1 cz2 cz3 cz4 cz5 cz6 cz7 HNUM
      go_wp2_with fail
      refine bodyPost_ret (results_cell_row rfl _ _ (w.heap.size) _ _ _ _ rfl HT.out Try.underlying43 rfl (by kernel_rfl)) rfl ?_
      rw [HEQ.out]
      exact ⟨rfl, HE.out.1, HE.out.2⟩
  by_cases hk6 : k = 6
  · subst hk6
    obtain ⟨q, rfl⟩ : ∃ q : Nat, p = (q : Int) := ⟨p.toNat, by omega⟩
    obtain ⟨cx0, cx1, cx2, cx3, cx4, cx5, cx6, cx7⟩ := hX.cs
    by_cases hL : L q = []
    · have HTO := Lib.hid (HTO0.out s2 q wc x0 hd hL)
      have HEQ : Hid (DR.opOf' L 6 (q : Int) s2 = (⟨2, q, 0, 1, 0, 0, ⟨#[]⟩, ⟨#[]⟩⟩, s2)) := Lib.hid (by
        unfold DR.opOf'
        rw [if_neg (by omega), if_neg (by omega), if_pos (by omega), Int.toNat_natCast, if_pos hL])
      have HH := Lib.hid (And.intro hX (And.intro hR hgw))
      clear HTO0 HTO1 x0 hX hR hgw
      go_wp2_with fail
      refine HTO.out.mono ?_
      rintro e w9 ⟨rfl, hd9, hg9⟩
      have hX9 := HH.out.1.grown hg9 (by omega)
      have hR9 := HH.out.2.1.grown hg9 (by omega)
      obtain ⟨cz0, cz1, cz2, cz3, cz4, cz5, cz6, cz7⟩ := OpAt.cs hX9
      obtain ⟨q0, q1, q2, q3, q4, q5, q6, q7⟩ := OpAt.cs hR9
      obtain ⟨e0, e1, e2, e3, e4, e5, e6, e7⟩ := OpAt.fs hR9
      have HT := Lib.hid (OpAt.all hR9 2 q 0 1 0 0 ⟨#[]⟩ ⟨#[]⟩)
      have HE := Lib.hid (num_end hd9 (grown_more HH.out.2.2 hg9) (b := w.heap.size) (Nat.le_refl _) (by omega) (.int .i64 2) (.int .i64 q) (.int .i64 0) (.int .i64 1) (.int .i64 0) (.int .i64 0) (.string ⟨#[]⟩) (.string ⟨#[]⟩))
      clear hd9 hg9 hR9 hX9 HTO
      go_wp2_with fail
      refine bodyPost_ret (results_cell_row rfl _ _ (w.heap.size) _ _ _ _ rfl HT.out Try.underlying43 rfl (by kernel_rfl)) rfl ?_
      rw [HEQ.out]
      exact ⟨rfl, HE.out.1, HE.out.2⟩
    · have hL0 : 0 < (L q).length := List.length_pos_iff.2 hL
      have HTO := Lib.hid (HTO1.out s2 q wc x0 hd hL0)
      have HEQ0 : Hid (∀ y, DR.numb (DR.nxt s2) ⟨6, q, (DR.toOf (L q) s2 : Nat), 0, 0, 0, ⟨#[]⟩, ⟨#[]⟩⟩ = y → DR.opOf' L 6 (q : Int) s2 = y) := Lib.hid (fun y h => by
        rw [← h]
        unfold DR.opOf'
        rw [if_neg (by omega), if_neg (by omega), if_pos (by omega), Int.toNat_natCast, if_neg hL])
      have HH := Lib.hid (And.intro hX (And.intro hR hgw))
      clear HTO0 HTO1 x0 hX hR hgw hd hL0
      generalize DR.toOf (L q) s2 = tq at *
      generalize hs3 : DR.nxt s2 = s3 at *
      clear hs3
      go_wp2_with fail
      refine HTO.out.mono ?_
      rintro e w2 ⟨rfl, hd2, hg2⟩
      have hX2 := HH.out.1.grown hg2 (by omega)
      have hR2 := HH.out.2.1.grown hg2 (by omega)
      have hg2' := grown_more HH.out.2.2 hg2
      have hX3 := hX2.setT (tq : Int)
      have hR3 := hR2.grown (grown_setCell w2 X 2 (.int .i64 (tq : Int))) (by omega)
      have hd3 := hd2.keep (b := X) (by omega) 2 (.int .i64 (tq : Int))
      have hg3 := grown_keep hg2' (b := X) (by omega) 2 (.int .i64 (tq : Int))
      obtain ⟨fy0, fy1, fy2, fy3, fy4, fy5, fy6, fy7⟩ := hX2.fs
      obtain ⟨cy0, cy1, cy2, cy3, cy4, cy5, cy6, cy7⟩ := hX2.cs
      clear hX2 hR2 hg2' hd2 hg2 cx0 cx1 cx2 cx3 cx4 cx5 cx6 cx7 HTO
      obtain ⟨⟨⟨y0, y1, y2, y3, y4, y5, y6, y7⟩, s9⟩, hz⟩ : ∃ z, DR.numb s3 ⟨6, (q : Int), (tq : Int), 0, 0, 0, ⟨#[]⟩, ⟨#[]⟩⟩ = z := ⟨_, rfl⟩
      have HEQ : Hid (DR.opOf' L 6 (q : Int) s2 = (⟨y0, y1, y2, y3, y4, y5, y6, y7⟩, s9)) := Lib.hid (by rw [← hz]; exact HEQ0.out _ rfl)
      have HNUM := Lib.hid (draw_numbers' D s3 (.pointer (some ⟨B, 0, none⟩)) 6 (q : Int) (tq : Int) 0 0 0 ⟨#[]⟩ ⟨#[]⟩ _ hd3 hz)
      obtain ⟨cz0, cz1, cz2, cz3, cz4, cz5, cz6, cz7⟩ := OpAt.cs hX3
      clear hz
      go_wp2_with fail
      refine HNUM.out.mono ?_
      rintro e w9 ⟨rfl, hd9, hg9⟩
      have hR9 := OpAt.grown hR3 hg9 (by omega)
      obtain ⟨q0, q1, q2, q3, q4, q5, q6, q7⟩ := OpAt.cs hR9
      obtain ⟨e0, e1, e2, e3, e4, e5, e6, e7⟩ := OpAt.fs hR9
      have HT := Lib.hid (OpAt.all hR9 y0 y1 y2 y3 y4 y5 y6 y7)
      have HE := Lib.hid (num_end hd9 (grown_more hg3 hg9) (b := w.heap.size) (Nat.le_refl _) (by omega) (.int .i64 y0) (.int .i64 y1) (.int .i64 y2) (.int .i64 y3) (.int .i64 y4) (.int .i64 y5) (.string y6) (.string y7))
      clear hd9 hg9 hR9 cz0 cz1 cz2 cz3 cz4 cz5 cz6 cz7 HNUM
      go_wp2_with fail
      refine bodyPost_ret (results_cell_row rfl _ _ (w.heap.size) _ _ _ _ rfl HT.out Try.underlying43 rfl (by kernel_rfl)) rfl ?_
      rw [HEQ.out]
      exact ⟨rfl, HE.out.1, HE.out.2⟩
  by_cases hk7 : k = 7
  · subst hk7
    obtain ⟨q, rfl⟩ : ∃ q : Nat, p = (q : Int) := ⟨p.toNat, by omega⟩
    obtain ⟨cx0, cx1, cx2, cx3, cx4, cx5, cx6, cx7⟩ := hX.cs
    by_cases hL : L q = []
    · have HTO := Lib.hid (HTO0.out s2 q wc x0 hd hL)
      have HEQ : Hid (DR.opOf' L 7 (q : Int) s2 = (⟨2, q, 0, 1, 0, 0, ⟨#[]⟩, ⟨#[]⟩⟩, s2)) := Lib.hid (by
        unfold DR.opOf'
        rw [if_neg (by omega), if_neg (by omega), if_pos (by omega), Int.toNat_natCast, if_pos hL])
      have HH := Lib.hid (And.intro hX (And.intro hR hgw))
      clear HTO0 HTO1 x0 hX hR hgw
      go_wp2_with fail
      refine HTO.out.mono ?_
      rintro e w9 ⟨rfl, hd9, hg9⟩
      have hX9 := HH.out.1.grown hg9 (by omega)
      have hR9 := HH.out.2.1.grown hg9 (by omega)
      obtain ⟨cz0, cz1, cz2, cz3, cz4, cz5, cz6, cz7⟩ := OpAt.cs hX9
      obtain ⟨q0, q1, q2, q3, q4, q5, q6, q7⟩ := OpAt.cs hR9
      obtain ⟨e0, e1, e2, e3, e4, e5, e6, e7⟩ := OpAt.fs hR9
      have HT := Lib.hid (OpAt.all hR9 2 q 0 1 0 0 ⟨#[]⟩ ⟨#[]⟩)
      have HE := Lib.hid (num_end hd9 (grown_more HH.out.2.2 hg9) (b := w.heap.size) (Nat.le_refl _) (by omega) (.int .i64 2) (.int .i64 q) (.int .i64 0) (.int .i64 1) (.int .i64 0) (.int .i64 0) (.string ⟨#[]⟩) (.string ⟨#[]⟩))
      clear hd9 hg9 hR9 hX9 HTO
      go_wp2_with fail
      refine bodyPost_ret (results_cell_row rfl _ _ (w.heap.size) _ _ _ _ rfl HT.out Try.underlying43 rfl (by kernel_rfl)) rfl ?_
      rw [HEQ.out]
      exact ⟨rfl, HE.out.1, HE.out.2⟩
    · have hL0 : 0 < (L q).length := List.length_pos_iff.2 hL
      have HTO := Lib.hid (HTO1.out s2 q wc x0 hd hL0)
      have HEQ0 : Hid (∀ y, DR.numb (DR.nxt s2) ⟨7, q, (DR.toOf (L q) s2 : Nat), 0, 0, 0, ⟨#[]⟩, ⟨#[]⟩⟩ = y → DR.opOf' L 7 (q : Int) s2 = y) := Lib.hid (fun y h => by
        rw [← h]
        unfold DR.opOf'
        rw [if_neg (by omega), if_neg (by omega), if_pos (by omega), Int.toNat_natCast, if_neg hL])
      have HH := Lib.hid (And.intro hX (And.intro hR hgw))
      clear HTO0 HTO1 x0 hX hR hgw hd hL0
      generalize DR.toOf (L q) s2 = tq at *
      generalize hs3 : DR.nxt s2 = s3 at *
      clear hs3
      go_wp2_with fail
      refine HTO.out.mono ?_
      rintro e w2 ⟨rfl, hd2, hg2⟩
      have hX2 := HH.out.1.grown hg2 (by omega)
      have hR2 := HH.out.2.1.grown hg2 (by omega)
      have hg2' := grown_more HH.out.2.2 hg2
      have hX3 := hX2.setT (tq : Int)
      have hR3 := hR2.grown (grown_setCell w2 X 2 (.int .i64 (tq : Int))) (by omega)
      have hd3 := hd2.keep (b := X) (by omega) 2 (.int .i64 (tq : Int))
      have hg3 := grown_keep hg2' (b := X) (by omega) 2 (.int .i64 (tq : Int))
      obtain ⟨fy0, fy1, fy2, fy3, fy4, fy5, fy6, fy7⟩ := hX2.fs
      obtain ⟨cy0, cy1, cy2, cy3, cy4, cy5, cy6, cy7⟩ := hX2.cs
      clear hX2 hR2 hg2' hd2 hg2 cx0 cx1 cx2 cx3 cx4 cx5 cx6 cx7 HTO
      obtain ⟨⟨⟨y0, y1, y2, y3, y4, y5, y6, y7⟩, s9⟩, hz⟩ : ∃ z, DR.numb s3 ⟨7, (q : Int), (tq : Int), 0, 0, 0, ⟨#[]⟩, ⟨#[]⟩⟩ = z := ⟨_, rfl⟩
      have HEQ : Hid (DR.opOf' L 7 (q : Int) s2 = (⟨y0, y1, y2, y3, y4, y5, y6, y7⟩, s9)) := Lib.hid (by rw [← hz]; exact HEQ0.out _ rfl)
      have HNUM := Lib.hid (draw_numbers' D s3 (.pointer (some ⟨B, 0, none⟩)) 7 (q : Int) (tq : Int) 0 0 0 ⟨#[]⟩ ⟨#[]⟩ _ hd3 hz)
      obtain ⟨cz0, cz1, cz2, cz3, cz4, cz5, cz6, cz7⟩ := OpAt.cs hX3
      clear hz
      go_wp2_with fail
      refine HNUM.out.mono ?_
      rintro e w9 ⟨rfl, hd9, hg9⟩
      have hR9 := OpAt.grown hR3 hg9 (by omega)
      obtain ⟨q0, q1, q2, q3, q4, q5, q6, q7⟩ := OpAt.cs hR9
      obtain ⟨e0, e1, e2, e3, e4, e5, e6, e7⟩ := OpAt.fs hR9
      have HT := Lib.hid (OpAt.all hR9 y0 y1 y2 y3 y4 y5 y6 y7)
      have HE := Lib.hid (num_end hd9 (grown_more hg3 hg9) (b := w.heap.size) (Nat.le_refl _) (by omega) (.int .i64 y0) (.int .i64 y1) (.int .i64 y2) (.int .i64 y3) (.int .i64 y4) (.int .i64 y5) (.string y6) (.string y7))
      clear hd9 hg9 hR9 cz0 cz1 cz2 cz3 cz4 cz5 cz6 cz7 HNUM
      go_wp2_with fail
      refine bodyPost_ret (results_cell_row rfl _ _ (w.heap.size) _ _ _ _ rfl HT.out Try.underlying43 rfl (by kernel_rfl)) rfl ?_
      rw [HEQ.out]
      exact ⟨rfl, HE.out.1, HE.out.2⟩
  have f0 := ne_false hk0
  have f1 := ne_false hk1
  have f4 := ne_false hk4
  have f5 := ne_false hk5
  have f6 := ne_false hk6
  have f7 := ne_false hk7
  have HEQ0 : Hid (∀ y, DR.numb s2 ⟨k, p, 0, 0, 0, 0, ⟨#[]⟩, ⟨#[]⟩⟩ = y → DR.opOf' L k p s2 = y) := Lib.hid (fun y h => by
    rw [← h]
    unfold DR.opOf'
    rw [if_neg (by omega), if_neg (by omega), if_neg (by omega)])
  clear HTO0 HTO1 x0 hk0 hk1 hk4 hk5 hk6 hk7
  obtain ⟨⟨⟨y0, y1, y2, y3, y4, y5, y6, y7⟩, s9⟩, hz⟩ : ∃ z, DR.numb s2 ⟨k, p, 0, 0, 0, 0, ⟨#[]⟩, ⟨#[]⟩⟩ = z := ⟨_, rfl⟩
  have HEQ : Hid (DR.opOf' L k p s2 = (⟨y0, y1, y2, y3, y4, y5, y6, y7⟩, s9)) := Lib.hid (by rw [← hz]; exact HEQ0.out _ rfl)
  have HNUM := Lib.hid (draw_numbers' D s2 (.pointer (some ⟨B, 0, none⟩)) k p 0 0 0 0 ⟨#[]⟩ ⟨#[]⟩ wc hd hz)
  obtain ⟨cz0, cz1, cz2, cz3, cz4, cz5, cz6, cz7⟩ := OpAt.cs hX
  clear hz
  go_wp2_with fail
  refine HNUM.out.mono ?_
  rintro e w9 ⟨rfl, hd9, hg9⟩
  have hR9 := OpAt.grown hR hg9 (by omega)
  obtain ⟨q0, q1, q2, q3, q4, q5, q6, q7⟩ := OpAt.cs hR9
  obtain ⟨e0, e1, e2, e3, e4, e5, e6, e7⟩ := OpAt.fs hR9
  have HT := Lib.hid (OpAt.all hR9 y0 y1 y2 y3 y4 y5 y6 y7)
  have HE := Lib.hid (num_end hd9 (grown_more hgw hg9) (b := w.heap.size) (Nat.le_refl _) (by omega) (.int .i64 y0) (.int .i64 y1) (.int .i64 y2) (.int .i64 y3) (.int .i64 y4) (.int .i64 y5) (.string y6) (.string y7))
  clear hd9 hg9 hR9 cz0 cz1 cz2 cz3 cz4 cz5 cz6 cz7 HNUM
  go_wp2_with fail
  refine bodyPost_ret (results_cell_row rfl _ _ (w.heap.size) _ _ _ _ rfl HT.out Try.underlying43 rfl (by kernel_rfl)) rfl ?_
  rw [HEQ.out]
  exact ⟨rfl, HE.out.1, HE.out.2⟩
end Go.Proofs.Ytcnjklbmlplehaa
