/- What the document's Add answers where nothing is added; how it begins where something is. -/
import Derived.Test.YtdgjjlffdfpkcaaDotAppend
import Derived.Test.YtdgjjlffdfpkcaaRefSetLen
import Derived.Test.YtdgjjlffdfpkcaaRefJoin
import Derived.Test.YtdgjjlffdfpkcaaSetAdd
namespace Go.Proofs.Ytdgjjlffdfpkcaa
open Go.RowKit

/-- The three boxes that Add lays first: the set, the dot, the result. -/
def addW (w : World) (vb ve : Value) (d : Dot) : World := ((w.alloc (.cells #[vb, ve] 24)).alloc (.cells #[.int .i64 d.1, .int .i64 d.2] 26)).alloc (.cells #[.slice none 0 0, .slice none 0 0] 24)
structure AddB (w W : World) (vb ve : Value) (d : Dot) : Prop where
  ext : Ext w W
  set : Two W w.heap.size 24 vb ve
  dot : Two W (w.heap.size + 1) 26 (.int .i64 d.1) (.int .i64 d.2)
  res : Two W (w.heap.size + 2) 24 (.slice none 0 0) (.slice none 0 0)
theorem addB (w : World) (vb ve : Value) (d : Dot) : AddB w (addW w vb ve d) vb ve d := by
  have hw0 : (w.alloc (.cells #[vb, ve] 24)).heap.size = w.heap.size + 1 := World.size_alloc _ _
  have hw1 : ((w.alloc (.cells #[vb, ve] 24)).alloc (.cells #[.int .i64 d.1, .int .i64 d.2] 26)).heap.size = w.heap.size + 2 := by rw [World.size_alloc, hw0]
  refine ⟨(((Ext.refl w).alloc _).alloc _).alloc _, (Two.new w _ _ _).ext (((Ext.refl _).alloc _).alloc _), ?_, ?_⟩
  · have := (Two.new (w.alloc (.cells #[vb, ve] 24)) 26 (.int .i64 d.1) (.int .i64 d.2)).ext ((Ext.refl _).alloc (.cells #[.slice none 0 0, .slice none 0 0] 24))
    rw [hw0] at this
    exact this
  · have := Two.new ((w.alloc (.cells #[vb, ve] 24)).alloc (.cells #[.int .i64 d.1, .int .i64 d.2] 26)) 24 (.slice none 0 0) (.slice none 0 0)
    rw [hw1] at this
    exact this
theorem AddB.more {w W W' : World} {vb ve : Value} {d : Dot} (h : AddB w W vb ve d) (he : Ext W W') : AddB w W' vb ve d := ⟨h.ext.trans he, h.set.ext he, h.dot.ext he, h.res.ext he⟩
theorem AddB.box {w W W' : World} {X : Nat} {vb ve : Value} {d : Dot} (h : AddB w W vb ve d) (hg : W.grownBy W' (some X)) (hX : w.heap.size + 2 < X) : AddB w W' vb ve d :=
  ⟨ext_grownBy h.ext hg (by omega), h.set.grown hg (by omega), h.dot.grown hg (by omega), h.res.grown hg (by omega)⟩
theorem dotsAt_drop {w : World} {b off : Nat} {l : List Dot} (h : DotsAt w b off l) (j : Nat) : DotsAt w b (off + j * 2) (l.drop j) := fun i hi => by
  rw [List.length_drop] at hi
  have hh := h (j + i) (by omega)
  rw [List.getElem_drop]
  rw [show off + j * 2 + i * 2 = off + (j + i) * 2 by omega]
  exact hh
theorem AddB.ret {w W : World} {vb ve : Value} {d : Dot} (h : AddB w W vb ve d) (x y : Value) : Two ((W.setCell ⟨w.heap.size + 2, 0, none⟩ x).setCell ⟨w.heap.size + 2, 1, none⟩ y) (w.heap.size + 2) 24 x y ∧ Ext w ((W.setCell ⟨w.heap.size + 2, 0, none⟩ x).setCell ⟨w.heap.size + 2, 1, none⟩ y) :=
  ⟨(h.res.set0 x).set1 y, ext_grownBy (ext_grownBy h.ext (grown_setCell _ _ _ _) (by omega)) (grown_setCell _ _ _ _) (by omega)⟩

set_option maxRecDepth 100000 in
set_option maxHeartbeats 2000000 in
theorem ref_add_no (v : Value) (s : DS.S) (d : Dot) (w : World) (h : SetV w v s) (hno : ¬ (DS.check s = 0 ∧ DS.Good d ∧ ¬ DS.Has s d)) :
    Calls Try.prog 21 #[v, dotV d] w fun e w' => ∃ v', e = .returned (.tuple #[v', .bool false]) ∧ SetV w' v' s ∧ Ext w w' := by
  have hsv := h
  obtain ⟨vb, ve, rfl, hb, he⟩ := h
  unfold dotV
  have HA := Lib.hid (addB w vb ve d)
  have hck := fun w1 (he : Ext w w1) => ref_set_check _ s w1 (hsv.ext he)
  have hha := fun w1 (he : Ext w w1) => ref_set_has _ s d w1 (hsv.ext he)
  obtain ⟨pb, cb, rfl, _⟩ := hb
  obtain ⟨pe, ce, rfl, _⟩ := he
  have HC := Lib.hid hck
  have HH := Lib.hid hha
  have HD := Lib.hid (fun W => ref_dot_at d W)
  have HSV := Lib.hid hsv
  clear hck hha hsv
  generalize hnb : s.base.length = nb at *
  generalize hne : s.extra.length = ne at *
  clear hnb hne
  obtain ⟨q, hq⟩ : ∃ q, DS.check s = q := ⟨_, rfl⟩
  obtain ⟨z, hz⟩ : ∃ z, Vec.dotE d = z := ⟨_, rfl⟩
  rw [hq] at HC hno
  rw [hz] at HD
  have hhas : q = 0 → z = 0 → DS.has s d = true := fun h0 h1 => by
    unfold DS.has
    rw [hq]
    have : DS.Has s d := Classical.byContradiction fun hn => hno ⟨h0, DS.good_iff.1 (hz.trans h1), hn⟩
    simp [h0, this]
  have HHAS := Lib.hid hhas
  clear hno hq hz hhas
  have f1 := HA.out.set.c0
  have f2 := HA.out.set.c1
  have f3 := HA.out.dot.c0
  have f4 := HA.out.dot.c1
  obtain ⟨W0, hW0⟩ : ∃ W, addW w (.slice pb nb cb) (.slice pe ne ce) d = W := ⟨_, rfl⟩
  rw [hW0] at HA f1 f2 f3 f4
  go_enter Try.func21, Try.ntmps21
  go_upto_region 1 with fail
  have hWl : ((w.alloc (.cells #[.slice pb nb cb, .slice pe ne ce] 24)).alloc (.cells #[.int .i64 d.1, .int .i64 d.2] 26)).alloc (.cells #[.slice none 0 0, .slice none 0 0] 24) = W0 := hW0
  rw [hWl]
  clear hW0 hWl
  go_wp2_with fail
  refine (HC.out _ HA.out.ext).mono ?_
  rintro e w1 ⟨rfl, g1⟩
  have HA1 := Lib.hid (HA.out.more g1)
  have k1 := HA1.out.set.c0
  have k2 := HA1.out.set.c1
  have k3 := HA1.out.dot.c0
  have k4 := HA1.out.dot.c1
  have k5 := HA1.out.res.c0
  have k6 := HA1.out.res.c1
  have k7 := HA1.out.res.f0
  have k8 := HA1.out.res.f1
  clear g1 f1 f2 f3 f4
  by_cases h0 : q = 0
  · subst h0
    go_wp2_with fail
    refine (HD.out _).mono ?_
    rintro e w2 ⟨rfl, g2⟩
    have HA2 := Lib.hid (HA1.out.more g2)
    have i1 := HA2.out.set.c0
    have i2 := HA2.out.set.c1
    have i3 := HA2.out.dot.c0
    have i4 := HA2.out.dot.c1
    have i5 := HA2.out.res.c0
    have i6 := HA2.out.res.c1
    have i7 := HA2.out.res.f0
    have i8 := HA2.out.res.f1
    clear g2 k1 k2 k3 k4 k5 k6 k7 k8
    by_cases h1 : z = 0
    · subst h1
      have hh : DS.has s d = true := by
        have h9 := HHAS.out
        simpa using h9
      rw [hh] at HH
      clear HHAS hh
      go_wp2_with fail
      refine (HH.out _ HA2.out.ext).mono ?_
      rintro e w3 ⟨rfl, g3⟩
      have HA3 := Lib.hid (HA2.out.more g3)
      have j1 := HA3.out.set.c0
      have j2 := HA3.out.set.c1
      have j5 := HA3.out.res.c0
      have j6 := HA3.out.res.c1
      have j7 := HA3.out.res.f0
      have j8 := HA3.out.res.f1
      clear g3 i1 i2 i3 i4 i5 i6 i7 i8
      go_wp2
      obtain ⟨o1, o2⟩ := HA3.out.ret (.slice pb nb cb) (.slice pe ne ce)
      refine bodyPost_ret (results_row_tmp rfl _ _ (w.heap.size + 2) _ _ _ _ rfl o1 Try.underlying24 rfl (by kernel_rfl)) rfl ?_
      exact ⟨_, rfl, HSV.out.ext o2, o2⟩
    · have hz0 : ((z : Int) != 0) = true := by rw [bne_iff_ne]; omega
      clear HHAS HH h1
      go_wp2
      obtain ⟨o1, o2⟩ := HA2.out.ret (.slice pb nb cb) (.slice pe ne ce)
      refine bodyPost_ret (results_row_tmp rfl _ _ (w.heap.size + 2) _ _ _ _ rfl o1 Try.underlying24 rfl (by kernel_rfl)) rfl ?_
      exact ⟨_, rfl, HSV.out.ext o2, o2⟩
  · have hq0 : ((q : Int) != 0) = true := by rw [bne_iff_ne]; omega
    clear HHAS HH h0 HD
    go_wp2
    obtain ⟨o1, o2⟩ := HA1.out.ret (.slice pb nb cb) (.slice pe ne ce)
    refine bodyPost_ret (results_row_tmp rfl _ _ (w.heap.size + 2) _ _ _ _ rfl o1 Try.underlying24 rfl (by kernel_rfl)) rfl ?_
    exact ⟨_, rfl, HSV.out.ext o2, o2⟩
end Go.Proofs.Ytdgjjlffdfpkcaa
