/- What two sets of the program come to. -/
import Derived.Test.YtdgjjlffdfpkcaaDotShut
import Derived.Test.YtdgjjlffdfpkcaaSetBox
import Derived.Test.YtdgjjlffdfpkcaaDotsJoinPlain
import Derived.Test.YtdgjjlffdfpkcaaVecJoin
namespace Go.Proofs.Ytdgjjlffdfpkcaa
open Go.RowKit Go.Shelf Go.Lib

namespace DS
/-- The program's way so far. -/
def putsTo (s t : S) (R : List Dot) (k : Nat) : S := (R.take k).foldl put (start s t)
theorem putsTo_next (s t : S) (R : List Dot) (k : Nat) (h : k < R.length) : putsTo s t R (k + 1) = put (putsTo s t R k) R[k] := by unfold putsTo; rw [take_next R k h, List.foldl_append]; rfl
structure PutI (s t : S) (R : List Dot) (k : Nat) : Prop where
  ok : Ok (putsTo s t R k)
  lt : ∀ x ∈ (putsTo s t R k).extra, ∀ d ∈ R.drop k, DS.lt x d
  len : (putsTo s t R k).extra.length ≤ k
theorem PutI.start (s t : S) (R : List Dot) : PutI s t R 0 := ⟨start_ok s t, (fun x hx => by cases hx), Nat.le_refl _⟩
theorem PutI.next {s t : S} {R : List Dot} {k : Nat} (h : PutI s t R k) (hk : k < R.length) (hR : R.Pairwise DS.lt) (hg : ∀ d ∈ R, Good d) : PutI s t R (k + 1) := by
  have hd : R[k] ∈ R.drop k := by rw [List.drop_eq_getElem_cons hk]; exact List.mem_cons_self ..
  obtain ⟨k1, k2⟩ := put_add h.ok (hg _ (List.getElem_mem hk)) fun x hx => h.lt x hx _ hd
  have hlt : ∀ d ∈ R.drop (k + 1), DS.lt R[k] d := by
    have := hR.sublist (List.drop_sublist k R)
    rw [List.drop_eq_getElem_cons hk] at this
    exact (List.pairwise_cons.1 this).1
  refine ⟨?_, fun x hx d hd2 => ?_, ?_⟩
  · rw [putsTo_next s t R k hk, k1]; exact add_ok _ h.ok
  · rw [putsTo_next s t R k hk] at hx
    rcases k2 x hx with h1 | rfl
    · exact lt_trans h1 (hlt d hd2)
    · exact hlt d hd2
  · rw [putsTo_next s t R k hk, k1]
    have := add_extra R[k] h.ok
    have := h.len
    omega
theorem PutI.no {s t : S} {R : List Dot} {k : Nat} (h : PutI s t R k) (hk : k < R.length) (hc : ¬ (1 ≤ R[k].2 ∧ R[k].2 ≤ Vec.cnt (putsTo s t R k).base R[k].1)) : ¬ Has (putsTo s t R k) R[k] := by
  rintro (h1 | h1)
  · exact hc h1
  · exact lt_irrefl _ (h.lt _ h1 _ (by rw [List.drop_eq_getElem_cons hk]; exact List.mem_cons_self ..))
end DS

theorem setV_zero (w : World) : SetV w (.agg #[.slice none 0 0, .slice none 0 0]) DS.none := setV_none w
theorem dots_compact_nil (p : Option Addr) (c : Nat) (w : World) :
    Calls Try.prog 46 #[.slice p 0 c] w fun e w' => e = .returned (.slice p 0 c) ∧ w = w' := by
  go_enter Try.func46, Try.ntmps46
  go_wp2
  go_ret
  exact ⟨rfl, rfl⟩
theorem three_heap (w : World) (cs1 cs2 cs3 : Array Value) (t1 t2 t3 : TypeId) :
    (((w.alloc (.cells cs1 t1)).alloc (.cells cs2 t2)).alloc (.cells cs3 t3)).heap[w.heap.size]? = some (.cells cs1 t1) ∧
    (((w.alloc (.cells cs1 t1)).alloc (.cells cs2 t2)).alloc (.cells cs3 t3)).heap[w.heap.size + 1]? = some (.cells cs2 t2) ∧
    (((w.alloc (.cells cs1 t1)).alloc (.cells cs2 t2)).alloc (.cells cs3 t3)).heap[w.heap.size + 1 + 1]? = some (.cells cs3 t3) ∧
    Ext w (((w.alloc (.cells cs1 t1)).alloc (.cells cs2 t2)).alloc (.cells cs3 t3)) := by
  have x3 := (Ext.refl ((w.alloc (.cells cs1 t1)).alloc (.cells cs2 t2))).alloc (.cells cs3 t3)
  have e2 : ((w.alloc (.cells cs1 t1)).alloc (.cells cs2 t2)).heap.size = w.heap.size + 2 := by rw [World.size_alloc, World.size_alloc]
  refine ⟨(x3.block (by omega)).trans (heap_alloc2_old w _ _), (x3.block (by omega)).trans (heap_alloc2_new w _ _), ?_, (((Ext.refl w).alloc _).alloc _).trans x3⟩
  have := heap_alloc_new ((w.alloc (.cells cs1 t1)).alloc (.cells cs2 t2)) (.cells cs3 t3)
  rw [e2] at this
  exact this

/-- A row of dots that lies in no box. -/
def JRow (w : World) (B : Nat) (p : Option Addr) (m : Nat) (R : List Dot) : Prop := m = 0 ∨ ∃ g, p = some ⟨g, 0, none⟩ ∧ DotsAt w g 0 R ∧ g ≠ B
theorem DotsAt.far {w w' : World} {g B : Nat} {R : List Dot} (h : DotsAt w g 0 R) (hg : w.grownBy w' (some B)) (hn : g ≠ B) : DotsAt w' g 0 R := fun i hi => ⟨hg.cell (h i hi).1 (by intro e; injection e with e; exact hn e), hg.cell (h i hi).2 (by intro e; injection e with e; exact hn e)⟩

set_option maxRecDepth 100000 in
set_option maxHeartbeats 4000000 in
theorem set_join (u v : Value) (s t : DS.S) (w : World) (hs : SetV w u s) (ht : SetV w v t) (hn1 : s.extra.length ≤ 200) (hn2 : t.extra.length ≤ 200) :
    Calls Try.prog 23 #[u, v] w fun e w' => ∃ v', e = .returned v' ∧ SetV w' v' (DS.join s t) ∧ Ext w w' := by
  have HCS := Lib.hid (fun W (he : Ext w W) => set_check _ s W (hs.ext he))
  have HCT := Lib.hid (fun W (he : Ext w W) => set_check _ t W (ht.ext he))
  obtain ⟨ub, ue, rfl, hub, hue⟩ := hs
  obtain ⟨vb, ve, rfl, hvb, hve⟩ := ht
  have HUB := Lib.hid hub
  have HUE := Lib.hid hue
  have HVB := Lib.hid hvb
  have HVE := Lib.hid hve
  obtain ⟨p1, c1, rfl, _⟩ := hub
  obtain ⟨p2, c2, rfl, _⟩ := hue
  obtain ⟨p3, c3, rfl, _⟩ := hvb
  obtain ⟨p4, c4, rfl, _⟩ := hve
  have hjn : DS.join s t = if DS.check s = 0 ∧ DS.check t = 0 then DS.adds (DS.start s t) (s.extra ++ t.extra) else DS.none := rfl
  obtain ⟨g1, g2, g3, hx⟩ := three_heap w #[.slice p1 s.base.length c1, .slice p2 s.extra.length c2] #[.slice p3 t.base.length c3, .slice p4 t.extra.length c4] #[.slice none 0 0, .slice none 0 0] 29 29 29
  have HX := Lib.hid hx
  obtain ⟨q1, hq1⟩ : ∃ q, DS.check s = q := ⟨_, rfl⟩
  obtain ⟨q2, hq2⟩ : ∃ q, DS.check t = q := ⟨_, rfl⟩
  rw [hq1] at HCS
  rw [hq2] at HCT
  rw [hq1, hq2] at hjn
  have HJ := Lib.hid hjn
  have HQ := Lib.hid (And.intro hq1 hq2)
  clear hjn hx hq1 hq2
  go_enter Try.func23, Try.ntmps23
  go_upto_region 1 with fail
  generalize hW : ((w.alloc _).alloc _).alloc _ = W at *
  generalize hXw : w.heap.size = X at g1 g2 g3 ⊢
  have HXX := Lib.hid hXw
  have T1 : Hid (Two W X 29 (.slice p1 s.base.length c1) (.slice p2 s.extra.length c2)) := Lib.hid g1
  have T2 : Hid (Two W (X + 1) 29 (.slice p3 t.base.length c3) (.slice p4 t.extra.length c4)) := Lib.hid g2
  have T3 : Hid (Two W (X + 1 + 1) 29 (.slice none 0 0) (.slice none 0 0)) := Lib.hid g3
  clear hW hXw g1 g2 g3
  have a0 := T1.out.c0
  have a1 := T1.out.c1
  by_cases h1 : q1 = 0
  · subst h1
    go_wp2_with fail
    refine (HCS.out W HX.out).mono ?_
    rintro e w1 ⟨rfl, x1⟩
    have HX1 := Lib.hid (HX.out.trans x1)
    have U1 := Lib.hid (T1.out.ext x1)
    have U2 := Lib.hid (T2.out.ext x1)
    have U3 := Lib.hid (T3.out.ext x1)
    clear a0 a1 x1
    have a0 := U2.out.c0
    have a1 := U2.out.c1
    by_cases h2 : q2 = 0
    · subst h2
      go_wp2_with fail
      refine (HCT.out w1 HX1.out).mono ?_
      rintro e w2 ⟨rfl, x2⟩
      have HX2 := Lib.hid (HX1.out.trans x2)
      have V1 := Lib.hid (U1.out.ext x2)
      have V2 := Lib.hid (U2.out.ext x2)
      have V3 := Lib.hid (U3.out.ext x2)
      clear a0 a1 x2 T1 T2 T3 U1 U2 U3
      have a0 := V1.out.c0
      have b0 := V2.out.c0
      have HVJ := Lib.hid (vec_join _ _ s.base t.base w2 (HUB.out.ext HX2.out) (HVB.out.ext HX2.out))
      have a1 := V1.out.c1
      have b1 := V2.out.c1
      go_wp2_with fail
      refine HVJ.out.mono ?_
      rintro e w3 ⟨vj, rfl, hvj, _, x3⟩
      have HVJ3 := Lib.hid hvj
      obtain ⟨pj, cj, rfl, _⟩ := hvj
      have HX3 := Lib.hid (HX2.out.trans x3)
      have Y1 := Lib.hid (V1.out.ext x3)
      have Y2 := Lib.hid (V2.out.ext x3)
      have Y3 := Lib.hid (V3.out.ext x3)
      clear a0 b0 a1 b1 x3 V1 V2 V3
      go_upto_region 4 with fail
      have hsb := SetB.new w3 29 (s := DS.start s t) (p2 := none) (c2 := 0) HVJ3.out (dotsV_nil w3)
      have x4 := (Ext.refl w3).alloc (.cells #[.slice pj (Vec.joinL s.base t.base).length cj, .slice none 0 0] 29)
      have HSB : Hid (SetB (w3.alloc (.cells #[.slice pj (Vec.joinL s.base t.base).length cj, .slice none 0 0] 29)) w3.heap.size 29 (DS.start s t) pj cj none 0) := Lib.hid hsb
      have HX4 := Lib.hid (HX3.out.trans x4)
      have Z1 := Lib.hid (Y1.out.ext x4)
      have Z2 := Lib.hid (Y2.out.ext x4)
      have Z3 := Lib.hid (Y3.out.ext x4)
      have HB4 : Hid (w3.heap.size < (w3.alloc (.cells #[.slice pj (Vec.joinL s.base t.base).length cj, .slice none 0 0] 29)).heap.size ∧ X + 1 + 1 < w3.heap.size) := Lib.hid ⟨by rw [World.size_alloc]; omega, Y3.out.lt⟩
      have HBX : Hid (w3.heap.size ≤ w3.heap.size) := Lib.hid (Nat.le_refl _)
      clear hsb Y1 Y2
      have hx34 := Lib.hid x4
      clear x4
      obtain ⟨Bx, hBx⟩ : ∃ b, w3.heap.size = b := ⟨_, rfl⟩
      have HBE := Lib.hid hBx
      rw [hBx] at HSB HB4
      have HBX : Hid (w3.heap.size ≤ Bx) := Lib.hid (by rw [hBx]; exact Nat.le_refl _)
      generalize w3.alloc _ = w4 at *
      rw [hBx]
      clear hBx
      have a1 := Z1.out.c1
      have b1 := Z2.out.c1
      have hco := dots_concat (w := w4.alloc (.cells #[.slice p2 s.extra.length c2, .slice p4 t.extra.length c4] 22)) (alloc_cell w4 _ _ 0) (alloc_cell w4 _ _ 1) (HUE.out.ext (HX4.out.trans ((Ext.refl _).alloc _))) (HVE.out.ext (HX4.out.trans ((Ext.refl _).alloc _))) (by omega) (by omega)
      have HCO := Lib.hid hco
      have HS4 : Hid (w4.heap.size ≤ (w4.alloc (.cells #[.slice p2 s.extra.length c2, .slice p4 t.extra.length c4] 22)).heap.size) := Lib.hid (by rw [World.size_alloc]; omega)
      clear hco
      go_wp2_with fail
      refine HCO.out.mono ?_
      rintro e w5 ⟨pc, cc, rfl, hown, x5⟩
      have HOWN := Lib.hid hown
      have HX45 := Lib.hid (((Ext.refl w4).alloc (.cells #[.slice p2 s.extra.length c2, .slice p4 t.extra.length c4] 22)).trans x5)
      clear hown x5 a1 b1 HCO
      have HNN : Hid ((s.extra ++ t.extra).length = s.extra.length + t.extra.length) := Lib.hid List.length_append
      have HG0 : Hid (∀ d ∈ s.extra ++ t.extra, DS.Good d) := Lib.hid (fun d hd => by
        rcases List.mem_append.1 hd with h | h
        · exact (DS.check_ok.1 HQ.out.1).good d h
        · exact (DS.check_ok.1 HQ.out.2).good d h)
      by_cases hz : s.extra.length + t.extra.length = 0
      · rw [hz] at HOWN HNN ⊢
        have HSN := Lib.hid (sort_dots_none pc cc (.func (.func 28) #[] #[]) w5)
        go_wp2_with fail
        refine HSN.out.mono ?_
        rintro e w6 ⟨rfl, hw6⟩
        subst hw6
        go_wp2_with fail
        refine (dots_compact_nil pc cc _).mono ?_
        rintro e w7 ⟨rfl, hw7⟩
        subst hw7
        have hl0 : s.extra ++ t.extra = [] := List.length_eq_zero_iff.1 HNN.out
        have HSB7 := Lib.hid (HSB.out.ext HX45.out)
        have HX37 := Lib.hid (hx34.out.trans HX45.out)
        have HL0 := Lib.hid hl0
        clear hl0
        go_wp2
        go_loopw [35, 8] (fun iv _ W' => iv = .int .i64 0 ∧ w6 = W') (fun iv _ _ => 0)
        case atStart => exact ⟨rfl, rfl⟩
        case round =>
          obtain ⟨rfl, hwr⟩ := hrel
          subst hwr
          have b0 := HSB7.out.two.c0
          have b1 := HSB7.out.two.c1
          have hU := Y3.out.ext HX37.out
          have HU := Lib.hid hU
          have k0 := hU.c0
          have k1 := hU.c1
          have k2 := hU.f0
          have k3 := hU.f1
          clear hU
          go_wp2
          refine bodyPost_ret (results_cell_row rfl _ _ (X + 1 + 1) _ _ _ _ rfl ((HU.out.set0 _).set1 _) Try.underlying29 rfl (by kernel_rfl)) rfl ?_
          have hjoin : DS.start s t = DS.join s t := by
            have := DS.join_puts (DS.check_ok.1 HQ.out.1) (DS.check_ok.1 HQ.out.2) (l := []) .nil (fun x => by rw [HL0.out])
            exact this
          have hfin := fun x y => (HSB7.out.other HU.out (two_stores w6 (X + 1 + 1) x y) (by have := HB4.out.2; omega)).val
          rw [hjoin] at hfin
          rw [hjoin]
          exact ⟨_, rfl, hfin _ _, ((HX3.out.trans HX37.out).setCell (by show w.heap.size ≤ X + 1 + 1; have := HXX.out; omega) _).setCell (by show w.heap.size ≤ X + 1 + 1; have := HXX.out; omega) _⟩
      · obtain ⟨g, hpc, hgb⟩ : ∃ g, pc = some ⟨g, 0, none⟩ ∧ (w4.alloc (.cells #[.slice p2 s.extra.length c2, .slice p4 t.extra.length c4] 22)).heap.size ≤ g := by
          rcases HOWN.out.2 with ⟨_, h0⟩ | ⟨g, cap, cur, hv, hb, _⟩
          · exact absurd h0 hz
          · injection hv with e1 e2 e3
            exact ⟨g, e1, hb⟩
        subst hpc
        obtain ⟨nn, hnn⟩ : ∃ nn, s.extra.length + t.extra.length = nn := ⟨_, rfl⟩
        rw [hnn] at HOWN HNN ⊢
        have HSD := Lib.hid (sort_dots g cc nn _ _ HNN.out (by omega) w5 HOWN.out)
        have HGB := Lib.hid hgb
        have hnb : nn ≤ 400 := by omega
        clear hgb hz hnn
        go_wp2_with fail
        refine HSD.out.mono ?_
        rintro e w6 ⟨rfl, ⟨R0, hR1, hR2, hR3, hR4⟩, hR5⟩
        have hrl := cpt_len R0 nn (by omega)
        rw [List.take_of_length_le (by omega)] at hrl
        have HCM := Lib.hid (dots_compact g cc nn _ R0 hR1 (by omega) w6 hR4)
        have HX46 := Lib.hid (ext_grownBy HX45.out hR5 (by have := HS4.out; have := HGB.out; omega))
        have HSO : Hid ((cpt R0).Pairwise DS.lt) := Lib.hid (cpt_sorted hR3)
        have HME : Hid (∀ x, x ∈ cpt R0 ↔ x ∈ s.extra ++ t.extra) := Lib.hid (fun x => by rw [cpt_mem, hR2])
        clear hR1 hR2 hR3 hR4 hR5
        generalize cpt R0 = R at *
        go_wp2_with fail
        refine HCM.out.mono ?_
        rintro e w7 ⟨rfl, hda7, hg7⟩
        have HX47 := Lib.hid (ext_grownBy HX46.out hg7 (by have := HS4.out; have := HGB.out; omega))
        obtain ⟨m, hm⟩ : ∃ m, R.length = m := ⟨_, rfl⟩
        have HRL := Lib.hid hm
        have hmb : m ≤ 400 := by omega
        rw [hm]
        have HGOOD : Hid (∀ d ∈ R, DS.Good d) := Lib.hid (fun d hd => HG0.out d ((HME.out d).1 hd))
        obtain ⟨pr, hpr⟩ : ∃ pr : Option Addr, some ⟨g, 0, none⟩ = pr := ⟨_, rfl⟩
        have HROW7 : Hid (JRow w7 Bx pr m R) := Lib.hid (.inr ⟨g, hpr.symm, hda7, by have := HS4.out; have := HGB.out; have := HB4.out.1; omega⟩)
        have HSB7 : Hid (SetB w7 Bx 29 (DS.putsTo s t R 0) pj cj none 0) := Lib.hid (HSB.out.ext HX47.out)
        have HX37 := Lib.hid (hx34.out.trans HX47.out)
        rw [hpr]
        clear hda7 hg7 hpr hm hrl
        go_wp2
        go_loopw [35, 8] (fun iv _ W' => ∃ (k : Nat) (q1 q2 : Option Addr) (d1 d2 : Nat), k ≤ m ∧ iv = .int .i64 k ∧ Hid (SetB W' Bx 29 (DS.putsTo s t R k) q1 d1 q2 d2) ∧ Hid (DS.PutI s t R k) ∧ Hid (JRow W' Bx pr m R) ∧ Hid (Ext w3 W')) (fun iv _ _ => m - (intOf iv).toNat)
        case atStart => exact ⟨0, _, _, _, _, by omega, rfl, HSB7, Lib.hid (DS.PutI.start s t R), HROW7, HX37⟩
        case round =>
          obtain ⟨k, q1, q2, d1, d2, hk, rfl, HB, HP, HRO, HE⟩ := hrel
          have b0 := HB.out.two.c0
          have b1 := HB.out.two.c1
          by_cases hlt : k < m
          · have hkR : k < R.length := by rw [HRL.out]; exact hlt
            obtain ⟨g, rfl, hda, hgne⟩ : ∃ g, pr = some ⟨g, 0, none⟩ ∧ DotsAt wr g 0 R ∧ g ≠ Bx := by
              rcases HRO.out with h | h
              · omega
              · exact h
            obtain ⟨e1, e2⟩ := hda k hkR
            rw [Nat.zero_add] at e1 e2
            have hgood := HGOOD.out R[k] (List.getElem_mem hkR)
            have hno := HP.out.no hkR
            have hnx := DS.putsTo_next s t R k hkR
            have hpn := HP.out.next hkR HSO.out HGOOD.out
            have hcnt : getL (DS.putsTo s t R k).base R[k].1 = Vec.cnt (DS.putsTo s t R k).base R[k].1 := by unfold getL; rw [if_pos (Vec.check_ok.2 HP.out.ok.vec)]
            have hvh := fun W' (he : Ext wr W') => vec_has _ _ R[k] W' (HB.out.base.ext he)
            rw [hcnt] at hvh
            generalize R[k] = d at *
            obtain ⟨x1, x2⟩ := d
            simp only at e1 e2
            unfold dotV at hvh
            simp only at hvh
            have hwi := fun W' (he : Ext wr W') (hn : ¬ DS.Has (DS.putsTo s t R k) (x1, x2)) => set_with _ _ (x1, x2) W' ((HB.out.ext he).val) HP.out.ok hgood hn (by have := HP.out.len; omega)
            unfold dotV at hwi
            simp only at hwi
            have HVH := Lib.hid hvh
            have HWI := Lib.hid hwi
            have HNX := Lib.hid hnx
            have HPN := Lib.hid hpn
            have HDA := Lib.hid hda
            have i1 : (0 : Int) ≤ (k : Int) := by omega
            have i2 : (k : Int) < (m : Int) := by omega
            clear hgood hnx hpn hcnt hvh hwi hda hkR
            go_upto_region 9 with fail
            have xd := (Ext.refl wr).alloc (.cells #[.int .i64 x1, .int .i64 x2] 26)
            have c0' := alloc_cell wr #[.int .i64 x1, .int .i64 x2] 26 0
            have c1' := alloc_cell wr #[.int .i64 x1, .int .i64 x2] 26 1
            simp only [List.getElem?_toArray, List.getElem?_cons_zero, List.getElem?_cons_succ] at c0' c1'
            have HXD := Lib.hid xd
            clear b0 b1 e1 e2 xd
            generalize wr.alloc (.cells #[.int .i64 x1, .int .i64 x2] 26) = wd at *
            generalize wr.heap.size = Dx at *
            have b0 := (HB.out.ext HXD.out).two.c0
            have b1 := (HB.out.ext HXD.out).two.c1
            by_cases hc : 1 ≤ x2 ∧ x2 ≤ Vec.cnt (DS.putsTo s t R k).base x1
            · have HPUT : Hid (DS.putsTo s t R (k + 1) = DS.putsTo s t R k) := Lib.hid (by rw [HNX.out]; unfold DS.put; rw [if_pos hc])
              rw [decide_eq_true hc] at HVH
              clear hc hno
              go_wp2_with fail
              refine (HVH.out wd HXD.out).mono ?_
              rintro e w9 ⟨rfl, g9⟩
              have HX9 := Lib.hid (HXD.out.trans g9)
              clear b0 b1 c0' c1' g9
              go_wp2
              go_roundw
              case rel => exact ⟨k + 1, q1, q2, d1, d2, by omega, by go_num, Lib.hid (by rw [HPUT.out]; exact HB.out.ext HX9.out), HPN, Lib.hid (HRO.out.imp id fun ⟨g, e, h, hn⟩ => ⟨g, e, h.ext HX9.out, hn⟩), Lib.hid (HE.out.trans HX9.out)⟩
              case measure => simp [intOf]; omega
            · have HPUT : Hid (DS.putsTo s t R (k + 1) = DS.plus (DS.putsTo s t R k) (x1, x2)) := Lib.hid (by rw [HNX.out]; unfold DS.put; rw [if_neg hc])
              have hnh := hno hc
              have HW2 := Lib.hid (fun W' he => HWI.out W' he hnh)
              rw [decide_eq_false hc] at HVH
              clear hc hno hnh
              go_wp2_with fail
              refine (HVH.out wd HXD.out).mono ?_
              rintro e w9 ⟨rfl, g9⟩
              have HX9 := Lib.hid (HXD.out.trans g9)
              have k0 := g9.cell b0
              have k1 := g9.cell b1
              have k2 := g9.cell c0'
              have k3 := g9.cell c1'
              clear b0 b1 c0' c1' g9
              go_wp2_with fail
              refine (HW2.out w9 HX9.out).mono ?_
              rintro e wa ⟨va, rfl, hsa, ga⟩
              have HXA := Lib.hid (HX9.out.trans ga)
              obtain ⟨vab, vae, rfl, hab, hae⟩ := hsa
              rw [← HPUT.out] at hab hae
              have HAB := Lib.hid hab
              have HAE := Lib.hid hae
              obtain ⟨r1, f1, rfl, _⟩ := hab
              obtain ⟨r2, f2, rfl, _⟩ := hae
              have hba := (HB.out.ext HXA.out).two
              have HBA := Lib.hid hba
              have b0 := hba.c0
              have b1 := hba.c1
              have b2 := hba.f0
              have b3 := hba.f1
              clear k0 k1 k2 k3 ga hba
              go_wp2
              go_roundw
              case rel => exact ⟨k + 1, r1, r2, f1, f2, by omega, by go_num, Lib.hid (SetB.put HBA.out HAB.out HAE.out), HPN, Lib.hid (HRO.out.imp id fun ⟨g, e, h, hn⟩ => ⟨g, e, (h.ext HXA.out).far (two_stores wa Bx _ _) hn, hn⟩), Lib.hid (((HE.out.trans HXA.out).setCell (by show w3.heap.size ≤ Bx; exact HBX.out) _).setCell (by show w3.heap.size ≤ Bx; exact HBX.out) _)⟩
              case measure => simp [intOf]; omega
          · obtain rfl : k = m := by omega
            have hU := Y3.out.ext HE.out
            have HU := Lib.hid hU
            have k0 := hU.c0
            have k1 := hU.c1
            have k2 := hU.f0
            have k3 := hU.f1
            clear hU
            go_wp2
            refine bodyPost_ret (results_cell_row rfl _ _ (X + 1 + 1) _ _ _ _ rfl ((HU.out.set0 _).set1 _) Try.underlying29 rfl (by kernel_rfl)) rfl ?_
            have hjoin : DS.putsTo s t R k = DS.join s t := by
              have := DS.join_puts (DS.check_ok.1 HQ.out.1) (DS.check_ok.1 HQ.out.2) HSO.out HME.out
              unfold DS.putsTo
              rw [List.take_of_length_le (by rw [HRL.out]; exact Nat.le_refl _)]
              exact this
            have hfin := fun x y => (HB.out.other HU.out (two_stores wr (X + 1 + 1) x y) (by have := HB4.out.2; omega)).val
            rw [hjoin] at hfin
            rw [hjoin]
            exact ⟨_, rfl, hfin _ _, ((HX3.out.trans HE.out).setCell (by show w.heap.size ≤ X + 1 + 1; have := HXX.out; omega) _).setCell (by show w.heap.size ≤ X + 1 + 1; have := HXX.out; omega) _⟩
    · have t2 : ((q2 : Int) != 0) = true := bne_iff_ne.2 (by omega)
      have hj := HJ.out
      rw [if_neg (fun h => h2 h.2)] at hj
      have HJN := Lib.hid hj
      clear hj
      go_wp2_with fail
      refine (HCT.out w1 HX1.out).mono ?_
      rintro e w2 ⟨rfl, x2⟩
      have V3 := Lib.hid (U3.out.ext x2)
      have HX2 := Lib.hid (HX1.out.trans x2)
      have k0 := V3.out.c0
      have k1 := V3.out.c1
      have k2 := V3.out.f0
      have k3 := V3.out.f1
      clear a0 a1 x2
      go_wp2
      refine bodyPost_ret (results_cell_row rfl _ _ (X + 1 + 1) _ _ _ _ rfl ((V3.out.set0 _).set1 _) Try.underlying29 rfl (by kernel_rfl)) rfl ?_
      rw [HJN.out]
      exact ⟨_, rfl, setV_zero _, (HX2.out.setCell (by show w.heap.size ≤ X + 1 + 1; have := HXX.out; omega) _).setCell (by show w.heap.size ≤ X + 1 + 1; have := HXX.out; omega) _⟩
  · have t1 : ((q1 : Int) != 0) = true := bne_iff_ne.2 (by omega)
    have hj := HJ.out
    rw [if_neg (fun h => h1 h.1)] at hj
    have HJN := Lib.hid hj
    clear hj
    go_wp2_with fail
    refine (HCS.out W HX.out).mono ?_
    rintro e w1 ⟨rfl, x1⟩
    have HX1 := Lib.hid (HX.out.trans x1)
    have U3 := Lib.hid (T3.out.ext x1)
    have k0 := U3.out.c0
    have k1 := U3.out.c1
    have k2 := U3.out.f0
    have k3 := U3.out.f1
    clear a0 a1 x1
    go_wp2
    refine bodyPost_ret (results_cell_row rfl _ _ (X + 1 + 1) _ _ _ _ rfl ((U3.out.set0 _).set1 _) Try.underlying29 rfl (by kernel_rfl)) rfl ?_
    rw [HJN.out]
    exact ⟨_, rfl, setV_zero _, (HX1.out.setCell (by show w.heap.size ≤ X + 1 + 1; have := HXX.out; omega) _).setCell (by show w.heap.size ≤ X + 1 + 1; have := HXX.out; omega) _⟩
end Go.Proofs.Ytdgjjlffdfpkcaa
