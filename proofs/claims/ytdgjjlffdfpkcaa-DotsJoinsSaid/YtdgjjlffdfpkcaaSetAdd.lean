/- What Add of a set answers. -/
import Derived.Test.YtdgjjlffdfpkcaaSetWith
namespace Go.Proofs.Ytdgjjlffdfpkcaa
open Go.RowKit

/-- Dots lie in no box of slices. -/
theorem DotsV.box {W W' : World} {v : Value} {l : List Dot} {k : Nat} {t : TypeId} {p1 p2 : Option Addr} {n1 n2 c1 c2 : Nat} (h : DotsV W v l) (ht : Two W k t (.slice p1 n1 c1) (.slice p2 n2 c2)) (hg : W.grownBy W' (some k)) : DotsV W' v l := by
  obtain ⟨p, c, rfl, h1, h2, h3, h4, h5, h6⟩ := h
  refine ⟨p, c, rfl, h1, h2, h3, h4, h5, ?_⟩
  by_cases h0 : l.length = 0
  · exact .inl h0
  · rcases h6 with h6 | ⟨b, off, rfl, hs⟩
    · exact .inl h6
    · have hne : b ≠ k := by
        rintro rfl
        have := (hs 0 (by omega)).1
        rw [(cell_row ht).1] at this
        match off, this with
        | 0, this => simp at this
        | 1, this => simp at this
        | n + 2, this => simp at this
      exact .inr ⟨b, off, rfl, fun i hi => ⟨hg.cell (hs i hi).1 (by intro e; injection e with e; exact hne e), hg.cell (hs i hi).2 (by intro e; injection e with e; exact hne e)⟩⟩

/-- A struct's cell and a slot, as results. -/
theorem results_row_tmp {P : Program} {fn : Func} {p u : Tmp} {ty : TypeId} (h : fn.results = #[.cell p ty, .tmp u]) (tmps : Array Value) (w : World) (g : Nat) (t : TypeId) (cs : Array Value) (fr : Nat × Nat) (d : TypeDesc)
    (hp : tmps.getD p undef = .pointer (some ⟨g, 0, none⟩)) (hg : w.heap[g]? = some (.cells cs t fr))
    (hu : P.underlying ty = some d) (hd : (match d with | .struct _ | .array _ _ => true | _ => false) = true) (hi : (P.info? ty).map (·.size) = some cs.size) :
    (results fn tmps).run P w = .ok (.tuple #[.agg cs, tmps.getD u undef]) w := by
  rw [results_cell_tmp h tmps P w]
  simp [hp, asAddr, run_loadVar_row w g t ty cs fr d hg hu hd hi, Result.andThen]

set_option maxRecDepth 100000 in
set_option maxHeartbeats 2000000 in
theorem set_add (v : Value) (s : DS.S) (d : Dot) (w : World) (h : SetV w v s) (hm : s.extra.length ≤ 100000) :
    Calls Try.prog 20 #[v, dotV d] w fun e w' => ∃ v', e = .returned (.tuple #[v', .bool (DS.add s d).2]) ∧ SetV w' v' (DS.add s d).1 ∧ Ext w w' := by
  have hsv := h
  obtain ⟨vb, ve, rfl, hb, he⟩ := h
  unfold dotV
  obtain ⟨d1, d2⟩ := d
  have hw0 : (w.alloc (.cells #[vb, ve] 29)).heap.size = w.heap.size + 1 := World.size_alloc _ _
  have hw1 : ((w.alloc (.cells #[vb, ve] 29)).alloc (.cells #[.int .i64 d1, .int .i64 d2] 26)).heap.size = w.heap.size + 2 := by rw [World.size_alloc, hw0]
  have hE : Ext w (((w.alloc (.cells #[vb, ve] 29)).alloc (.cells #[.int .i64 d1, .int .i64 d2] 26)).alloc (.cells #[.slice none 0 0, .slice none 0 0] 29)) := (((Ext.refl w).alloc _).alloc _).alloc _
  have hT2 : Two (((w.alloc (.cells #[vb, ve] 29)).alloc (.cells #[.int .i64 d1, .int .i64 d2] 26)).alloc (.cells #[.slice none 0 0, .slice none 0 0] 29)) w.heap.size 29 vb ve := (Two.new w _ _ _).ext (((Ext.refl _).alloc _).alloc _)
  have hT3 : Two (((w.alloc (.cells #[vb, ve] 29)).alloc (.cells #[.int .i64 d1, .int .i64 d2] 26)).alloc (.cells #[.slice none 0 0, .slice none 0 0] 29)) (w.heap.size + 1) 26 (.int .i64 d1) (.int .i64 d2) := by
    rw [← hw0]
    exact (Two.new _ _ _ _).ext ((Ext.refl _).alloc _)
  have hT4 : Two (((w.alloc (.cells #[vb, ve] 29)).alloc (.cells #[.int .i64 d1, .int .i64 d2] 26)).alloc (.cells #[.slice none 0 0, .slice none 0 0] 29)) (w.heap.size + 2) 29 (.slice none 0 0) (.slice none 0 0) := by
    rw [← hw1]
    exact Two.new _ _ _ _
  have hck := fun w1 (he : Ext w w1) => set_check _ s w1 (hsv.ext he)
  have hha := fun w1 (he : Ext w w1) => set_has _ s (d1, d2) w1 (hsv.ext he)
  have hwi := fun w1 (he : Ext w w1) (hok : DS.Ok s) (hd : DS.Good (d1, d2)) (hn : ¬ DS.Has s (d1, d2)) => set_with _ s (d1, d2) w1 (hsv.ext he) hok hd hn hm
  obtain ⟨pb, cb, rfl, _⟩ := hb
  obtain ⟨pe, ce, rfl, _⟩ := he
  have HC := Lib.hid hck
  have HH := Lib.hid hha
  have HW := Lib.hid hwi
  have HSV := Lib.hid hsv
  clear hck hha hwi hw0 hsv
  generalize hnb : s.base.length = nb at *
  generalize hne : s.extra.length = ne at *
  clear hnb hne
  -- the set as it is
  have hsame : ∀ w1, Ext (((w.alloc (.cells #[.slice pb nb cb, .slice pe ne ce] 29)).alloc (.cells #[.int .i64 d1, .int .i64 d2] 26)).alloc (.cells #[.slice none 0 0, .slice none 0 0] 29)) w1 → ∀ x y, Two ((w1.setCell ⟨w.heap.size + 2, 0, none⟩ x).setCell ⟨w.heap.size + 2, 1, none⟩ y) (w.heap.size + 2) 29 x y ∧ Ext w ((w1.setCell ⟨w.heap.size + 2, 0, none⟩ x).setCell ⟨w.heap.size + 2, 1, none⟩ y) := fun w1 g1 x y =>
    ⟨((hT4.ext g1).set0 x).set1 y, (((hE.trans g1).setCell (by show w.heap.size ≤ w.heap.size + 2; omega) x).setCell (by show w.heap.size ≤ w.heap.size + 2; omega) y)⟩
  have HSA := Lib.hid hsame
  clear hsame
  obtain ⟨q, hq⟩ : ∃ q, DS.check s = q := ⟨_, rfl⟩
  rw [hq] at HC
  have f1 := hT2.c0
  have f2 := hT2.c1
  have f3 := hT3.c0
  have f4 := hT3.c1
  have f5 := hT4.c0
  have f6 := hT4.c1
  have f7 := hT4.f0
  have f8 := hT4.f1
  by_cases h0 : q = 0
  · subst h0
    have hok := DS.check_ok.1 hq
    have hone := fun (w1 : World) => vec_check_some w1.heap.size 0 1 1 [(d1, d2)] (w1.alloc (.cells #[.int .i64 d1, .int .i64 d2] 26)) rfl (by omega) (fun i hi => by
      obtain rfl : i = 0 := by simpa using hi
      exact ⟨alloc_cell _ _ _ 0, alloc_cell _ _ _ 1⟩)
    rw [DS.check_one] at hone
    obtain ⟨z, hz⟩ : ∃ z, Vec.dotE (d1, d2) = z := ⟨_, rfl⟩
    rw [hz] at hone
    have HONE := Lib.hid hone
    clear hone
    by_cases hg : z = 0
    · subst hg
      have hgood := DS.good_iff.1 hz
      have hhas : DS.has s (d1, d2) = decide (DS.Has s (d1, d2)) := by unfold DS.has; rw [hq]; simp
      rw [hhas] at HH
      clear hhas hz hq
      by_cases hin : DS.Has s (d1, d2)
      · have hadd : DS.add s (d1, d2) = (s, false) := DS.add_no fun ⟨_, _, h⟩ => h hin
        rw [hadd]
        rw [decide_eq_true hin] at HH
        clear hadd HW hT2 hT3 hT4 hok hgood hin
        go_enter Try.func20, Try.ntmps20
        go_wp2_with fail
        refine (HC.out _ hE).mono ?_
        rintro e w1 ⟨rfl, g1⟩
        have k1 := g1.cell f1
        have k2 := g1.cell f2
        have k3 := g1.cell f3
        have k4 := g1.cell f4
        have k5 := g1.cell f5
        have k6 := g1.cell f6
        have k7 := (g1.frozen f5).trans f7
        have k8 := (g1.frozen f6).trans f8
        go_wp2_with fail
        refine (HONE.out _).mono ?_
        rintro e w2 ⟨rfl, g2⟩
        have g2' := g1.trans (((Ext.refl _).alloc _).trans g2)
        have i1 := g2'.cell f1
        have i2 := g2'.cell f2
        have i3 := g2'.cell f3
        have i4 := g2'.cell f4
        have i5 := g2'.cell f5
        have i6 := g2'.cell f6
        have i7 := (g2'.frozen f5).trans f7
        have i8 := (g2'.frozen f6).trans f8
        go_wp2_with fail
        refine (HH.out _ (hE.trans (g1.trans (((Ext.refl _).alloc _).trans g2)))).mono ?_
        rintro e w3 ⟨rfl, g3⟩
        have x3 := g2'.trans g3
        have j1 := x3.cell f1
        have j2 := x3.cell f2
        have j3 := x3.cell f3
        have j4 := x3.cell f4
        have j5 := x3.cell f5
        have j6 := x3.cell f6
        have j7 := (x3.frozen f5).trans f7
        have j8 := (x3.frozen f6).trans f8
        go_wp2
        obtain ⟨o1, o2⟩ := HSA.out w3 x3 (.slice pb nb cb) (.slice pe ne ce)
        refine bodyPost_ret (results_row_tmp rfl _ _ (w.heap.size + 2) _ _ _ _ rfl o1 Try.underlying29 rfl (by kernel_rfl)) rfl ?_
        exact ⟨_, rfl, HSV.out.ext o2, o2⟩
      · have hadd : DS.add s (d1, d2) = (DS.plus s (d1, d2), true) := DS.add_yes hok hgood hin
        rw [hadd]
        rw [decide_eq_false hin] at HH
        have HWW := Lib.hid (fun w1 he => HW.out w1 he hok hgood hin)
        clear hadd HW hT2 hT3 hok hgood hin
        have HT4 := Lib.hid hT4
        clear hT4
        go_enter Try.func20, Try.ntmps20
        go_wp2_with fail
        refine (HC.out _ hE).mono ?_
        rintro e w1 ⟨rfl, g1⟩
        have k1 := g1.cell f1
        have k2 := g1.cell f2
        have k3 := g1.cell f3
        have k4 := g1.cell f4
        have k5 := g1.cell f5
        have k6 := g1.cell f6
        have k7 := (g1.frozen f5).trans f7
        have k8 := (g1.frozen f6).trans f8
        go_wp2_with fail
        refine (HONE.out _).mono ?_
        rintro e w2 ⟨rfl, g2⟩
        have g2' := g1.trans (((Ext.refl _).alloc _).trans g2)
        have i1 := g2'.cell f1
        have i2 := g2'.cell f2
        have i3 := g2'.cell f3
        have i4 := g2'.cell f4
        have i5 := g2'.cell f5
        have i6 := g2'.cell f6
        have i7 := (g2'.frozen f5).trans f7
        have i8 := (g2'.frozen f6).trans f8
        go_wp2_with fail
        refine (HH.out _ (hE.trans (g1.trans (((Ext.refl _).alloc _).trans g2)))).mono ?_
        rintro e w3 ⟨rfl, g3⟩
        have x3 := g2'.trans g3
        have j1 := x3.cell f1
        have j2 := x3.cell f2
        have j3 := x3.cell f3
        have j4 := x3.cell f4
        have j5 := x3.cell f5
        have j6 := x3.cell f6
        have j7 := (x3.frozen f5).trans f7
        have j8 := (x3.frozen f6).trans f8
        go_wp2_with fail
        refine (HWW.out _ (hE.trans x3)).mono ?_
        rintro e w4 ⟨v4, rfl, hv4, g4⟩
        obtain ⟨xb, xe, rfl, hxb, hxe⟩ := hv4
        have hxb' := hxb
        have hxe' := hxe
        obtain ⟨p6, c6, rfl, _⟩ := hxb
        obtain ⟨p7, c7, rfl, _⟩ := hxe
        have HXB := Lib.hid hxb'
        have HXE := Lib.hid hxe'
        clear hxb' hxe'
        generalize (DS.plus s (d1, d2)).base.length = n6 at *
        generalize (DS.plus s (d1, d2)).extra.length = n7 at *
        have x4 := x3.trans g4
        have l5 := g4.cell j5
        have l6 := g4.cell j6
        have l7 := (g4.frozen j5).trans j7
        have l8 := (g4.frozen j6).trans j8
        have o1 := (((HT4.out.ext x4).set0 (.slice p6 n6 c6)).set1 (.slice p7 n7 c7))
        have hg8 := grown_setCell w4 (w.heap.size + 2) 0 (.slice p6 n6 c6)
        have hg9 := grown_setCell (w4.setCell ⟨w.heap.size + 2, 0, none⟩ (.slice p6 n6 c6)) (w.heap.size + 2) 1 (.slice p7 n7 c7)
        have HG8 := Lib.hid hg8
        have HG9 := Lib.hid hg9
        have HO1 := Lib.hid o1
        clear hg8 hg9 o1
        go_wp2
        refine bodyPost_ret (results_row_tmp rfl _ _ (w.heap.size + 2) _ _ _ _ rfl HO1.out Try.underlying29 rfl (by kernel_rfl)) rfl ?_
        have hb4 := HT4.out.ext x4
        have hb5 := hb4.set0 (.slice p6 n6 c6)
        exact ⟨_, rfl, ⟨_, _, rfl, (HXB.out.box hb4 HG8.out).box hb5 HG9.out, (HXE.out.box hb4 HG8.out).box hb5 HG9.out⟩, ext_grownBy (ext_grownBy (hE.trans x4) HG8.out (by omega)) HG9.out (by omega)⟩
    · have hadd : DS.add s (d1, d2) = (s, false) := DS.add_no fun ⟨_, h, _⟩ => hg (hz.symm.trans (DS.good_iff.2 h))
      rw [hadd]
      have hz0 : ((z : Int) != 0) = true := by rw [bne_iff_ne]; omega
      clear hadd HH HW hT2 hT3 hT4 hok hq hz hg
      go_enter Try.func20, Try.ntmps20
      go_wp2_with fail
      refine (HC.out _ hE).mono ?_
      rintro e w1 ⟨rfl, g1⟩
      have k1 := g1.cell f1
      have k2 := g1.cell f2
      have k3 := g1.cell f3
      have k4 := g1.cell f4
      have k5 := g1.cell f5
      have k6 := g1.cell f6
      have k7 := (g1.frozen f5).trans f7
      have k8 := (g1.frozen f6).trans f8
      go_wp2_with fail
      refine (HONE.out _).mono ?_
      rintro e w2 ⟨rfl, g2⟩
      have g2' := g1.trans (((Ext.refl _).alloc _).trans g2)
      have i1 := g2'.cell f1
      have i2 := g2'.cell f2
      have i3 := g2'.cell f3
      have i4 := g2'.cell f4
      have i5 := g2'.cell f5
      have i6 := g2'.cell f6
      have i7 := (g2'.frozen f5).trans f7
      have i8 := (g2'.frozen f6).trans f8
      go_wp2
      obtain ⟨o1, o2⟩ := HSA.out w2 g2' (.slice pb nb cb) (.slice pe ne ce)
      refine bodyPost_ret (results_row_tmp rfl _ _ (w.heap.size + 2) _ _ _ _ rfl o1 Try.underlying29 rfl (by kernel_rfl)) rfl ?_
      exact ⟨_, rfl, HSV.out.ext o2, o2⟩
  · have hadd : DS.add s (d1, d2) = (s, false) := DS.add_no fun ⟨a, _, _⟩ => h0 (hq.symm.trans (DS.check_ok.2 a))
    rw [hadd]
    have hq0 : ((q : Int) != 0) = true := by rw [bne_iff_ne]; omega
    clear hadd h0 hq HH HW hT2 hT3 hT4
    go_enter Try.func20, Try.ntmps20
    go_wp2_with fail
    refine (HC.out _ hE).mono ?_
    rintro e w1 ⟨rfl, g1⟩
    have k1 := g1.cell f1
    have k2 := g1.cell f2
    have k5 := g1.cell f5
    have k6 := g1.cell f6
    have k7 := (g1.frozen f5).trans f7
    have k8 := (g1.frozen f6).trans f8
    go_wp2
    obtain ⟨o1, o2⟩ := HSA.out w1 g1 (.slice pb nb cb) (.slice pe ne ce)
    refine bodyPost_ret (results_row_tmp rfl _ _ (w.heap.size + 2) _ _ _ _ rfl o1 Try.underlying29 rfl (by kernel_rfl)) rfl ?_
    exact ⟨_, rfl, HSV.out.ext o2, o2⟩

end Go.Proofs.Ytdgjjlffdfpkcaa
