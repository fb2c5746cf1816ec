/- Whether a set of the program is within another one. What two sets of the document come to; whether one is within the other. -/
import Derived.Test.YtdgjjlffdfpkcaaSetJoin
import Derived.Test.YtdgjjlffdfpkcaaLawAdds

namespace Go.Proofs.Ytdgjjlffdfpkcaa
open Go.RowKit Go.Shelf Go.Lib

theorem DS.within_dec {s t : DS.S} (hs : DS.check s = 0) (ht : DS.check t = 0) : DS.within s t = decide (DS.Within s t) := by
  unfold DS.within
  rw [decide_eq_decide]
  have hw := DS.within_iff (DS.check_ok.1 hs) (DS.check_ok.1 ht)
  rw [← hw, ← DS.eq_iff]
  exact ⟨fun h => h.2.2, fun h => ⟨hs, ht, h⟩⟩
/-- Dots behind a slice. -/
theorem dotsV_at {w : World} {p : Option Addr} {n c : Nat} {l : List Dot} (h : DotsV w (.slice p n c) l) : l.length = n ∧ (n = 0 ∨ ∃ b off, p = some ⟨b, off, none⟩ ∧ DotsAt w b off l) := by
  obtain ⟨p', c', he, _, _, hd⟩ := h
  injection he with e1 e2 e3
  subst e1
  exact ⟨e2.symm, by rw [e2]; exact hd.2.2.2⟩
theorem row_txt {w : World} {base : Nat} {p : Option Addr} {n c : Nat} {l : List Dot} (h : w.ownsRow base 26 2 (.slice p n c) n (dotCells l)) (hn : l.length = n) : n = 0 ∨ ∃ g, p = some ⟨g, 0, none⟩ ∧ DotsAt w g 0 l := by
  rcases h.2 with ⟨_, h0⟩ | ⟨g, cap, cur, hv, _⟩
  · exact .inl h0
  · injection hv with e1 e2 e3
    subst e1 e3
    refine .inr ⟨g, rfl, fun i hi => ?_⟩
    obtain ⟨k1, k2, _, _⟩ := row_at h hn i hi
    rw [Nat.zero_add]
    exact ⟨k1, k2⟩
theorem two_heap (w : World) (cs1 cs2 : Array Value) (t1 t2 : TypeId) :
    ((w.alloc (.cells cs1 t1)).alloc (.cells cs2 t2)).heap[w.heap.size]? = some (.cells cs1 t1) ∧
    ((w.alloc (.cells cs1 t1)).alloc (.cells cs2 t2)).heap[w.heap.size + 1]? = some (.cells cs2 t2) ∧
    Ext w ((w.alloc (.cells cs1 t1)).alloc (.cells cs2 t2)) :=
  ⟨heap_alloc2_old w _ _, heap_alloc2_new w _ _, ((Ext.refl w).alloc _).alloc _⟩

set_option maxRecDepth 100000 in
set_option maxHeartbeats 4000000 in
theorem set_within (u v : Value) (s t : DS.S) (w : World) (hs : SetV w u s) (ht : SetV w v t) (hn1 : s.extra.length ≤ 200) :
    Calls Try.prog 25 #[u, v] w fun e w' => e = .returned (.bool (DS.within s t)) ∧ Ext w w' := by
  have HCS := Lib.hid (fun W (he : Ext w W) => set_check _ s W (hs.ext he))
  have HCT := Lib.hid (fun W (he : Ext w W) => set_check _ t W (ht.ext he))
  have HHA := Lib.hid (fun W (he : Ext w W) d => set_has _ t d W (ht.ext he))
  obtain ⟨ub, ue, rfl, hub, hue⟩ := hs
  obtain ⟨vb, ve, rfl, hvb, hve⟩ := ht
  have HUB := Lib.hid hub
  have HUE := Lib.hid hue
  have HVB := Lib.hid hvb
  have HVE := Lib.hid hve
  obtain ⟨p1, c1, rfl, _⟩ := hub
  obtain ⟨p2, c2, rfl, _⟩ := hue
  obtain ⟨p3, c3, rfl, _⟩ := hvb
  obtain ⟨p4, c4, rfl, _⟩ := hve
  obtain ⟨g1, g2, hx⟩ := two_heap w #[.slice p1 s.base.length c1, .slice p2 s.extra.length c2] #[.slice p3 t.base.length c3, .slice p4 t.extra.length c4] 29 29
  have HX := Lib.hid hx
  obtain ⟨q1, hq1⟩ : ∃ q, DS.check s = q := ⟨_, rfl⟩
  obtain ⟨q2, hq2⟩ : ∃ q, DS.check t = q := ⟨_, rfl⟩
  rw [hq1] at HCS
  rw [hq2] at HCT
  obtain ⟨ans, hans⟩ : ∃ a, DS.within s t = a := ⟨_, rfl⟩
  rw [hans]
  have HANS := Lib.hid hans
  have HQ := Lib.hid (And.intro hq1 hq2)
  clear hx hq1 hq2 hans
  go_enter Try.func25, Try.ntmps25
  go_upto_region 1 with fail
  generalize hW : (w.alloc _).alloc _ = W at *
  generalize hXw : w.heap.size = X at g1 g2 ⊢
  have T1 : Hid (Two W X 29 (.slice p1 s.base.length c1) (.slice p2 s.extra.length c2)) := Lib.hid g1
  have T2 : Hid (Two W (X + 1) 29 (.slice p3 t.base.length c3) (.slice p4 t.extra.length c4)) := Lib.hid g2
  clear hW hXw g1 g2
  have a0 := T1.out.c0
  have a1 := T1.out.c1
  by_cases h1 : q1 = 0
  · subst h1
    go_wp2_with fail
    refine (HCS.out W HX.out).mono ?_
    rintro e w1 ⟨rfl, x1⟩
    have HX1 := Lib.hid (HX.out.trans x1)
    have U1 := Lib.hid (T1.out.ext x1)
    have U2 := Lib.hid (T2.out.ext x1)
    clear a0 a1 x1
    have a0 := U2.out.c0
    have a1 := U2.out.c1
    by_cases h2 : q2 = 0
    · subst h2
      have hok := DS.check_ok.1 HQ.out.1
      have hbl : s.base.length ≤ 64 := DS.ok_len hok.vec
      have hans : ans = decide (DS.Within s t) := by rw [← HANS.out]; exact DS.within_dec HQ.out.1 HQ.out.2
      have HAN := Lib.hid hans
      have HHB : Hid (∀ d, DS.has t d = decide (DS.Has t d)) := Lib.hid (fun d => by unfold DS.has; rw [HQ.out.2]; simp)
      have HGL : Hid (∀ p, getL t.base p = Vec.cnt t.base p) := Lib.hid (fun p => by unfold getL; rw [if_pos (Vec.check_ok.2 (DS.check_ok.1 HQ.out.2).vec)])
      clear hok hans
      go_wp2_with fail
      refine (HCT.out w1 HX1.out).mono ?_
      rintro e w2 ⟨rfl, x2⟩
      have HX2 := Lib.hid (HX1.out.trans x2)
      have V1 := Lib.hid (U1.out.ext x2)
      have V2 := Lib.hid (U2.out.ext x2)
      clear a0 a1 x2 T1 T2 U1 U2
      have a0 := V1.out.c0
      have a1 := V1.out.c1
      have hco := dots_concat (w := w2.alloc (.cells #[.slice p1 s.base.length c1, .slice p2 s.extra.length c2] 22)) (alloc_cell w2 _ _ 0) (alloc_cell w2 _ _ 1) (HUB.out.ext (HX2.out.trans ((Ext.refl _).alloc _))) (HUE.out.ext (HX2.out.trans ((Ext.refl _).alloc _))) (by omega) (by omega)
      have HCO := Lib.hid hco
      clear hco
      go_wp2_with fail
      refine HCO.out.mono ?_
      rintro e w5 ⟨pc, cc, rfl, hown, x5⟩
      have HX25 := Lib.hid (((Ext.refl w2).alloc (.cells #[.slice p1 s.base.length c1, .slice p2 s.extra.length c2] 22)).trans x5)
      have HL : Hid ((s.base ++ s.extra).length = s.base.length + s.extra.length) := Lib.hid List.length_append
      have HRT := Lib.hid (row_txt hown HL.out)
      obtain ⟨m, hm⟩ : ∃ m, s.base.length + s.extra.length = m := ⟨_, rfl⟩
      rw [hm] at HRT HL ⊢
      have hmb : m ≤ 264 := by omega
      clear hown x5 a0 a1 HCO hm
      go_wp2
      go_loopw [24, 6] (fun iv _ W' => ∃ k : Nat, k ≤ m ∧ iv = .int .i64 k ∧ Hid (∀ d ∈ (s.base ++ s.extra).take k, DS.Has t d) ∧ Hid (Ext w5 W')) (fun iv _ _ => m - (intOf iv).toNat)
      case atStart => exact ⟨0, by omega, rfl, Lib.hid (fun d hd => by cases hd), Lib.hid (Ext.refl _)⟩
      case round =>
        obtain ⟨k, hk, rfl, HAL, HE⟩ := hrel
        have HXR := Lib.hid (HX2.out.trans (HX25.out.trans HE.out))
        by_cases hlt : k < m
        · have hkl : k < (s.base ++ s.extra).length := by rw [HL.out]; exact hlt
          obtain ⟨g, rfl, hda⟩ : ∃ g, pc = some ⟨g, 0, none⟩ ∧ DotsAt w5 g 0 (s.base ++ s.extra) := by
            rcases HRT.out with h | h
            · omega
            · exact h
          obtain ⟨e1, e2⟩ := (hda.ext HE.out) k hkl
          rw [Nat.zero_add] at e1 e2
          have htk := take_next (s.base ++ s.extra) k hkl
          have hmem := List.getElem_mem hkl
          generalize (s.base ++ s.extra)[k] = d at *
          have hha := HHA.out (wr.alloc (.cells #[.int .i64 d.1, .int .i64 d.2] 26)) (HXR.out.trans ((Ext.refl _).alloc _)) d
          rw [HHB.out d] at hha
          obtain ⟨x1, x2⟩ := d
          simp only at e1 e2 hha
          unfold dotV at hha
          simp only at hha
          have HH := Lib.hid hha
          have HTK := Lib.hid htk
          have HMM := Lib.hid hmem
          have i1 : (0 : Int) ≤ (k : Int) := by omega
          have i2 : (k : Int) < (m : Int) := by omega
          have y2 := V2.out.ext ((HX25.out.trans HE.out).trans ((Ext.refl _).alloc (.cells #[.int .i64 x1, .int .i64 x2] 26)))
          have z0 := y2.c0
          have z1 := y2.c1
          clear hda htk hmem hha y2 hkl
          by_cases hc : DS.Has t (x1, x2)
          · rw [decide_eq_true hc] at HH
            go_wp2_with fail
            refine HH.out.mono ?_
            rintro e w9 ⟨rfl, g9⟩
            have HE9 := Lib.hid ((HE.out.alloc (.cells #[.int .i64 x1, .int .i64 x2] 26)).trans g9)
            clear e1 e2 z0 z1 g9
            go_wp2
            go_roundw
            case rel => exact ⟨k + 1, by omega, by go_num, Lib.hid (fun d hd => by
                rw [HTK.out] at hd
                rcases List.mem_append.1 hd with h | h
                · exact HAL.out d h
                · obtain rfl : d = (x1, x2) := by simpa using h
                  exact hc), HE9⟩
            case measure => simp [intOf]; omega
          · rw [decide_eq_false hc] at HH
            obtain rfl : ans = false := by
              rw [HAN.out]
              exact decide_eq_false (fun h => hc (h.1 _ HMM.out))
            go_wp2_with fail
            refine HH.out.mono ?_
            rintro e w9 ⟨rfl, g9⟩
            have HE9 := Lib.hid (HXR.out.trans (((Ext.refl _).alloc (.cells #[.int .i64 x1, .int .i64 x2] 26)).trans g9))
            clear e1 e2 z0 z1 g9
            go_wp2
            go_ret
            exact ⟨rfl, HE9.out⟩
        · obtain rfl : k = m := by omega
          have hall := HAL.out
          rw [List.take_of_length_le (by rw [HL.out]; exact Nat.le_refl _)] at hall
          have HALL := Lib.hid hall
          have HBA := Lib.hid (dotsV_at HUB.out).2
          have HXW := Lib.hid (HX25.out.trans HE.out)
          obtain ⟨nb, hnb⟩ : ∃ nb, s.base.length = nb := ⟨_, rfl⟩
          have a0 := (V1.out.ext HXW.out).c0
          have HNB := Lib.hid hnb
          rw [hnb] at a0 HBA hbl
          clear hall hnb
          go_wp2
          go_loopw [36, 8] (fun iv _ W' => ∃ j : Nat, j ≤ nb ∧ iv = .int .i64 j ∧ Hid (∀ d ∈ s.base.take j, d.2 ≤ Vec.cnt t.base d.1) ∧ Hid (Ext w2 W')) (fun iv _ _ => nb - (intOf iv).toNat)
          case atStart => exact ⟨0, by omega, rfl, Lib.hid (fun d hd => by cases hd), HXW⟩
          case round =>
            obtain ⟨j, hj, rfl, HLE, HE2⟩ := hrel
            by_cases hjn : j < nb
            · have hjl : j < s.base.length := by rw [HNB.out]; exact hjn
              obtain ⟨b, off, rfl, hda⟩ : ∃ b off, p1 = some ⟨b, off, none⟩ ∧ DotsAt w b off s.base := by
                rcases HBA.out with h | h
                · omega
                · exact h
              obtain ⟨e1, e2⟩ := (hda.ext (HX2.out.trans HE2.out)) j hjl
              have htk := take_next s.base j hjl
              have hmem := List.getElem_mem hjl
              generalize s.base[j] = d at *
              obtain ⟨x1, x2⟩ := d
              simp only at e1 e2
              have xd := (Ext.refl wr).alloc (.cells #[.int .i64 x1, .int .i64 x2] 26)
              have c0' := alloc_cell wr #[.int .i64 x1, .int .i64 x2] 26 0
              have c1' := alloc_cell wr #[.int .i64 x1, .int .i64 x2] 26 1
              simp only [List.getElem?_toArray, List.getElem?_cons_zero, List.getElem?_cons_succ] at c0' c1'
              have z0 := cell_ext (V2.out.ext (HE2.out.trans xd)).c0
              have z1 := cell_ext c0'
              have z2 := cell_ext c1'
              have hvg := fun (p : ExtOf (wr.alloc (.cells #[.int .i64 x1, .int .i64 x2] 26))) => vec_get _ t.base x1 p.to (HVB.out.ext (HX2.out.trans ((HE2.out.trans xd).trans p.ext)))
              rw [HGL.out x1] at hvg
              have HVG := Lib.hid hvg
              have HTK := Lib.hid htk
              have HMM := Lib.hid hmem
              obtain ⟨cn, hcn⟩ : ∃ cn, Vec.cnt t.base x1 = cn := ⟨_, rfl⟩
              rw [hcn] at HVG
              have HCN := Lib.hid hcn
              have i1 : (0 : Int) ≤ (j : Int) := by omega
              have i2 : (j : Int) < (nb : Int) := by omega
              have HXD := Lib.hid (HE2.out.trans xd)
              clear hda htk hmem hvg hjl hcn c0' c1' xd
              by_cases hc : cn < x2
              · have t2 : decide (cn < x2) = true := decide_eq_true hc
                obtain rfl : ans = false := by
                  rw [HAN.out]
                  exact decide_eq_false (fun h => by
                    have := h.2 _ HMM.out
                    rw [HCN.out] at this
                    simp only at this
                    omega)
                go_wp2
                refine wp_region_quiet_ext (by kernel_rfl) (by kernel_rfl) ?_
                repeat (go_big_quiet_step (first | (go_at_call 29; exact calls_ext (HVG.out _))))
                refine wpQuiet_nil ?_
                intro w9 g9
                go_wp2
                go_ret
                exact ⟨rfl, (HX2.out.trans HXD.out).trans g9⟩
              · have t2 : decide (cn < x2) = false := decide_eq_false hc
                go_wp2
                refine wp_region_quiet_ext (by kernel_rfl) (by kernel_rfl) ?_
                repeat (go_big_quiet_step (first | (go_at_call 29; exact calls_ext (HVG.out _))))
                refine wpQuiet_nil ?_
                intro w9 g9
                have HE9 := Lib.hid (HXD.out.trans g9)
                clear e1 e2 z0 z1 z2 g9
                go_wp2
                go_roundw
                case rel => exact ⟨j + 1, by omega, by go_num, Lib.hid (fun d hd => by
                    rw [HTK.out] at hd
                    rcases List.mem_append.1 hd with h | h
                    · exact HLE.out d h
                    · obtain rfl : d = (x1, x2) := by simpa using h
                      rw [HCN.out]
                      simp only
                      omega), HE9⟩
                case measure => simp [intOf]; omega
            · obtain rfl : j = nb := by omega
              have hle := HLE.out
              rw [List.take_of_length_le (by rw [HNB.out]; exact Nat.le_refl _)] at hle
              obtain rfl : ans = true := by
                rw [HAN.out]
                exact decide_eq_true ⟨HALL.out, hle⟩
              clear hle
              go_wp2
              go_ret
              exact ⟨rfl, HX2.out.trans HE2.out⟩
    · have t2 : ((q2 : Int) != 0) = true := bne_iff_ne.2 (by omega)
      obtain rfl : ans = false := by rw [← HANS.out]; unfold DS.within; exact decide_eq_false (fun h => h2 (HQ.out.2.symm.trans h.2.1))
      go_wp2_with fail
      refine (HCT.out w1 HX1.out).mono ?_
      rintro e w2 ⟨rfl, x2⟩
      have HX2 := Lib.hid (HX1.out.trans x2)
      clear a0 a1 x2
      go_wp2
      go_ret
      exact ⟨rfl, HX2.out⟩
  · have t1 : ((q1 : Int) != 0) = true := bne_iff_ne.2 (by omega)
    obtain rfl : ans = false := by rw [← HANS.out]; unfold DS.within; exact decide_eq_false (fun h => h1 (HQ.out.1.symm.trans h.1))
    go_wp2_with fail
    refine (HCS.out W HX.out).mono ?_
    rintro e w1 ⟨rfl, x1⟩
    have HX1 := Lib.hid (HX.out.trans x1)
    clear a0 a1 x1
    go_wp2
    go_ret
    exact ⟨rfl, HX1.out⟩
end Go.Proofs.Ytdgjjlffdfpkcaa

namespace Go.Proofs.Ytdgjjlffdfpkcaa
open Go.RowKit Go.Shelf Go.Lib

set_option maxRecDepth 100000 in
set_option maxHeartbeats 4000000 in
theorem ref_set_join (u v : Value) (s t : DS.S) (w : World) (hs : SetV w u s) (ht : SetV w v t) (hn1 : s.extra.length ≤ 60) (hn2 : t.extra.length ≤ 60) :
    Calls Try.prog 24 #[u, v] w fun e w' => ∃ v', e = .returned v' ∧ SetV w' v' (DS.join s t) ∧ Ext w w' := by
  have HCS := Lib.hid (fun W (he : Ext w W) => ref_set_check _ s W (hs.ext he))
  have HCT := Lib.hid (fun W (he : Ext w W) => ref_set_check _ t W (ht.ext he))
  obtain ⟨ub, ue, rfl, hub, hue⟩ := hs
  obtain ⟨vb, ve, rfl, hvb, hve⟩ := ht
  have HUB := Lib.hid hub
  have HUE := Lib.hid hue
  have HVB := Lib.hid hvb
  have HVE := Lib.hid hve
  obtain ⟨p1, c1, rfl, _⟩ := hub
  obtain ⟨p2, c2, rfl, _⟩ := hue
  obtain ⟨p3, c3, rfl, _⟩ := hvb
  obtain ⟨p4, c4, rfl, _⟩ := hve
  have hjn : DS.join s t = if DS.check s = 0 ∧ DS.check t = 0 then DS.adds (DS.start s t) (s.extra ++ t.extra) else DS.none := rfl
  obtain ⟨g1, g2, g3, hx⟩ := three_heap w #[.slice p1 s.base.length c1, .slice p2 s.extra.length c2] #[.slice p3 t.base.length c3, .slice p4 t.extra.length c4] #[.slice none 0 0, .slice none 0 0] 24 24 24
  have HX := Lib.hid hx
  obtain ⟨q1, hq1⟩ : ∃ q, DS.check s = q := ⟨_, rfl⟩
  obtain ⟨q2, hq2⟩ : ∃ q, DS.check t = q := ⟨_, rfl⟩
  rw [hq1] at HCS
  rw [hq2] at HCT
  rw [hq1, hq2] at hjn
  have HJ := Lib.hid hjn
  have HQ := Lib.hid (And.intro hq1 hq2)
  clear hjn hx hq1 hq2
  go_enter Try.func24, Try.ntmps24
  go_upto_region 1 with fail
  generalize hW : ((w.alloc _).alloc _).alloc _ = W at *
  generalize hXw : w.heap.size = X at g1 g2 g3 ⊢
  have HXX := Lib.hid hXw
  have T1 : Hid (Two W X 24 (.slice p1 s.base.length c1) (.slice p2 s.extra.length c2)) := Lib.hid g1
  have T2 : Hid (Two W (X + 1) 24 (.slice p3 t.base.length c3) (.slice p4 t.extra.length c4)) := Lib.hid g2
  have T3 : Hid (Two W (X + 1 + 1) 24 (.slice none 0 0) (.slice none 0 0)) := Lib.hid g3
  clear hW hXw g1 g2 g3
  have a0 := T1.out.c0
  have a1 := T1.out.c1
  by_cases h1 : q1 = 0
  · subst h1
    go_wp2_with fail
    refine (HCS.out W HX.out).mono ?_
    rintro e w1 ⟨rfl, x1⟩
    have HX1 := Lib.hid (HX.out.trans x1)
    have U1 := Lib.hid (T1.out.ext x1)
    have U2 := Lib.hid (T2.out.ext x1)
    have U3 := Lib.hid (T3.out.ext x1)
    clear a0 a1 x1
    have a0 := U2.out.c0
    have a1 := U2.out.c1
    by_cases h2 : q2 = 0
    · subst h2
      go_wp2_with fail
      refine (HCT.out w1 HX1.out).mono ?_
      rintro e w2 ⟨rfl, x2⟩
      have HX2 := Lib.hid (HX1.out.trans x2)
      have V1 := Lib.hid (U1.out.ext x2)
      have V2 := Lib.hid (U2.out.ext x2)
      have V3 := Lib.hid (U3.out.ext x2)
      clear a0 a1 x2 T1 T2 T3 U1 U2 U3
      have a0 := V1.out.c0
      have b0 := V2.out.c0
      have HVJ := Lib.hid (ref_join _ _ s.base t.base w2 (HUB.out.ext HX2.out) (HVB.out.ext HX2.out))
      have a1 := V1.out.c1
      have b1 := V2.out.c1
      go_wp2_with fail
      refine HVJ.out.mono ?_
      rintro e w3 ⟨vj, rfl, hvj, x3⟩
      have HVJ3 := Lib.hid hvj
      obtain ⟨pj, cj, rfl, _⟩ := hvj
      have HX3 := Lib.hid (HX2.out.trans x3)
      have Y1 := Lib.hid (V1.out.ext x3)
      have Y2 := Lib.hid (V2.out.ext x3)
      have Y3 := Lib.hid (V3.out.ext x3)
      clear a0 b0 a1 b1 x3 V1 V2 V3
      go_upto_region 4 with fail
      have hsb := SetB.new w3 24 (s := DS.start s t) (p2 := none) (c2 := 0) HVJ3.out (dotsV_nil w3)
      have x4 := (Ext.refl w3).alloc (.cells #[.slice pj (Vec.joinL s.base t.base).length cj, .slice none 0 0] 24)
      have HSB : Hid (SetB (w3.alloc (.cells #[.slice pj (Vec.joinL s.base t.base).length cj, .slice none 0 0] 24)) w3.heap.size 24 (DS.start s t) pj cj none 0) := Lib.hid hsb
      have HX4 := Lib.hid (HX3.out.trans x4)
      have Z1 := Lib.hid (Y1.out.ext x4)
      have Z2 := Lib.hid (Y2.out.ext x4)
      have HB4 : Hid (w3.heap.size < (w3.alloc (.cells #[.slice pj (Vec.joinL s.base t.base).length cj, .slice none 0 0] 24)).heap.size ∧ X + 1 + 1 < w3.heap.size) := Lib.hid ⟨by rw [World.size_alloc]; omega, Y3.out.lt⟩
      have HBX : Hid (w3.heap.size ≤ w3.heap.size) := Lib.hid (Nat.le_refl _)
      clear hsb Y1 Y2
      have hx34 := Lib.hid x4
      clear x4
      obtain ⟨Bx, hBx⟩ : ∃ b, w3.heap.size = b := ⟨_, rfl⟩
      have HBE := Lib.hid hBx
      rw [hBx] at HSB HB4
      have HBX : Hid (w3.heap.size ≤ Bx) := Lib.hid (by rw [hBx]; exact Nat.le_refl _)
      generalize w3.alloc _ = w4 at *
      rw [hBx]
      clear hBx
      have m1 := Z1.out.c1
      have m2 := Z2.out.c1
      have HED1 := Lib.hid (dotsV_at HUE.out).2
      have HED2 := Lib.hid (dotsV_at HVE.out).2
      have HF : Hid (∀ d ∈ s.extra ++ t.extra, Fit d) := Lib.hid (fun d hd => by
        rcases List.mem_append.1 hd with h | h
        · obtain ⟨_, _, _, _, _, hh⟩ := HUE.out; exact hh.2.2.1 d h
        · obtain ⟨_, _, _, _, _, hh⟩ := HVE.out; exact hh.2.2.1 d h)
      go_cut [6] from 25 to 31 (fun x W => ∃ p c, x = .slice p (s.extra ++ t.extra).length c ∧ DotsV W x (s.extra ++ t.extra) ∧ Ext w4 W)
      case first =>
        have xE := (Ext.refl w4).alloc (.cells #[] 26)
        have mE1 := xE.cell m1
        have mE2 := xE.cell m2
        refine wp_region_noPanic ?_
        go_region_law (first
          | (refine step_append_dots _ rfl (.tmp 25) (.tmp 27) rfl w4.heap.size _ [] s.extra p2 c2 s.extra.length rfl (by simp [Act.eval]) (by simp [Act.eval]) (row_to (own_empty w4) (Ext.refl _).drew) (HED1.out.imp id fun ⟨b, off, hp, ha⟩ => ⟨b, off, hp, ha.ext (HX4.out.trans ((Ext.refl w4).alloc (.cells #[] 26)).drew)⟩) (by simp) (by omega) (by simp [World.size_alloc]) ?_; intro v7 w7 hown7 hgrow7; have HX7 := Lib.hid (ext_grownV (((Ext.refl w4).alloc (.cells #[] 26)).drew) (row_to (own_empty w4) (Ext.refl _).drew) hgrow7 (Nat.le_refl _)); obtain ⟨p7, c7, rfl⟩ := row_slice hown7; have HR7 : Hid (w7.ownsRow w4.heap.size 26 2 (.slice p7 s.extra.length c7) s.extra.length (dotCells s.extra)) := Lib.hid hown7; have n1 := HX7.out.cell m1; have n2 := HX7.out.cell m2; have tokP : True := trivial; clear hown7 hgrow7; (try simp only [List.nil_append]))
          | (have _t := tokP; refine step_append_dots _ rfl (.tmp 28) (.tmp 30) rfl w4.heap.size _ s.extra t.extra p4 c4 t.extra.length rfl (by simp [Act.eval]) (by simp [Act.eval]) HR7.out (HED2.out.imp id fun ⟨b, off, hp, ha⟩ => ⟨b, off, hp, ha.ext (HX4.out.trans HX7.out)⟩) (by omega) (by omega) HX7.out.size ?_; intro v9 w9 hown9 hgrow9; obtain ⟨p9, c9, rfl⟩ := row_slice hown9; have HX9 := Lib.hid (ext_grownV HX7.out HR7.out hgrow9 (Nat.le_refl _)); have HR9 := Lib.hid hown9; clear hown9 hgrow9))
        all_goals
          refine NoPanic.normal ?_
          go_wp2_with fail
          go_meet
          have hh := row_dots HR9.out HF.out (by rw [List.length_append]; omega)
          rw [List.length_append] at hh
          exact ⟨p9, c9, by rw [List.length_append], hh, HX9.out⟩
      case rest =>
      obtain ⟨pa, ca, rfl, hall, hx5⟩ := hcut
      have HALD := Lib.hid (dotsV_at hall).2
      have HX5 := Lib.hid (HX4.out.trans hx5)
      have HSB5 := Lib.hid (HSB.out.ext hx5)
      have HX35 := Lib.hid (hx34.out.trans hx5)
      have hnl : (s.extra ++ t.extra).length ≤ 120 := by rw [List.length_append]; omega
      have HJL : Hid (DS.adds (DS.start s t) ((s.extra ++ t.extra).filter fun d => decide (¬ (1 ≤ d.2 ∧ d.2 ≤ Vec.cnt (DS.start s t).base d.1))) = DS.join s t) := Lib.hid (DS.join_later (DS.check_ok.1 HQ.out.1) (DS.check_ok.1 HQ.out.2))
      obtain ⟨all, hal⟩ : ∃ l, s.extra ++ t.extra = l := ⟨_, rfl⟩
      rw [hal] at HALD hnl HF HJL ⊢
      obtain ⟨n, hn⟩ : ∃ n, all.length = n := ⟨_, rfl⟩
      have HN := Lib.hid hn
      rw [hn] at HALD hnl ⊢
      have hok0 := DS.start_ok s t
      have hcnt : ∀ p, getL (DS.start s t).base p = Vec.cnt (DS.start s t).base p := fun p => by unfold getL; rw [if_pos (Vec.check_ok.2 hok0.vec)]
      have HCNT := Lib.hid hcnt
      have HOK := Lib.hid hok0
      have HS0 : Hid ((DS.start s t).extra = []) := Lib.hid rfl
      generalize DS.start s t = S0 at *
      obtain ⟨F, hFd⟩ : ∃ F : List Dot → List Dot, F = fun l => l.filter fun d => decide (¬ (1 ≤ d.2 ∧ d.2 ≤ Vec.cnt S0.base d.1)) := ⟨_, rfl⟩
      have HFJ : Hid (DS.adds S0 (F all) = DS.join s t) := Lib.hid (by rw [hFd]; exact HJL.out)
      have HF0 : Hid (F [] = []) := Lib.hid (by rw [hFd]; rfl)
      have HFS : Hid (∀ l x, F (l ++ [x]) = if 1 ≤ x.2 ∧ x.2 ≤ Vec.cnt S0.base x.1 then F l else F l ++ [x]) := Lib.hid (fun l x => by
        rw [hFd]
        show (l ++ [x]).filter _ = _
        rw [List.filter_append]
        by_cases h : 1 ≤ x.2 ∧ x.2 ≤ Vec.cnt S0.base x.1
        · rw [if_pos h, List.filter_cons_of_neg (by simp [h]), List.filter_nil, List.append_nil]
        · rw [if_neg h]
          exact congrArg (l.filter _ ++ ·) (List.filter_eq_self.2 (fun a ha => by rw [List.mem_singleton.1 ha]; exact decide_eq_true h)))
      have HFL : Hid (∀ l : List Dot, (F l).length ≤ l.length) := Lib.hid (fun l => by rw [hFd]; exact List.length_filter_le _ _)
      have HFM : Hid (∀ (l : List Dot) x, x ∈ F l → x ∈ l) := Lib.hid (fun l x hx => by rw [hFd] at hx; exact (List.mem_filter.1 hx).1)
      clear hall hal hn hcnt hok0 hFd HJL hx5 m1 m2
      generalize wc = w5 at *
      go_wp2
      go_loopw [7, 8] (fun lv iv W => ∃ k : Nat, k ≤ n ∧ iv = .int .i64 k ∧ Hid (W.ownsRow w5.heap.size 26 2 lv (F (all.take k)).length (dotCells (F (all.take k)))) ∧ Hid (Ext w5 W)) (fun _ iv _ => n - (intOf iv).toNat)
      case atStart => exact ⟨0, by omega, rfl, Lib.hid (by rw [List.take_zero, HF0.out]; exact ⟨rfl, .inl ⟨rfl, rfl⟩⟩), Lib.hid (Ext.refl _)⟩
      case round =>
        obtain ⟨k, hk, rfl, HR, HE⟩ := hrel
        by_cases hlt : k < n
        · have hkl : k < all.length := by rw [HN.out]; exact hlt
          obtain ⟨b, off, rfl, hda⟩ : ∃ b off, pa = some ⟨b, off, none⟩ ∧ DotsAt w5 b off all := by
            rcases HALD.out with h | h
            · omega
            · exact h
          have hfl := HFL.out (all.take k)
          have hda' := (hda.ext HE.out) k hkl
          have hsn := HFS.out (all.take k) all[k]
          rw [← take_next all k hkl] at hsn
          have hvh := fun (p : ExtOf wr) => ref_vec_has _ S0.base all[k] p.to ((HSB5.out.ext (HE.out.trans p.ext)).base)
          rw [HCNT.out] at hvh
          have hfl : (F (all.take k)).length ≤ 120 := by rw [List.length_take] at hfl; omega
          generalize all[k] = x at *
          unfold dotV at hvh
          obtain ⟨e1, e2⟩ := hda'
          have e3 := cell_ext e1
          have e4 := cell_ext e2
          have e5 := cell_ext (HSB5.out.ext HE.out).two.c0
          have HSN := Lib.hid hsn
          have i1 : (0 : Int) ≤ (k : Int) := by omega
          have i2 : (k : Int) < (n : Int) := by omega
          obtain ⟨bb, hbb⟩ : ∃ bb, decide (1 ≤ x.2 ∧ x.2 ≤ Vec.cnt S0.base x.1) = bb := ⟨_, rfl⟩
          rw [hbb] at hvh
          have HVH := Lib.hid hvh
          have HBB := Lib.hid hbb
          clear hvh hsn hda hbb hkl
          generalize F (all.take k) = Fk at *
          obtain ⟨lp, lc, rfl⟩ := row_slice HR.out
          go_wp2_with fail
          refine wp_region_quiet_ext (by kernel_rfl) (by kernel_rfl) ?_
          repeat (go_big_quiet_step (first | (go_at_call 36; exact calls_ext (HVH.out _))))
          refine wpQuiet_nil ?_
          intro w6 g6
          have HE6 := Lib.hid (HE.out.trans g6)
          have HR6 := Lib.hid (row_to HR.out g6)
          cases bb with
          | true =>
            have hs := HSN.out
            rw [if_pos (of_decide_eq_true HBB.out)] at hs
            have HS := Lib.hid hs
            clear hs g6 e1 e2 e3 e4 e5
            go_wp2_with fail
            go_roundw
            case rel => exact ⟨k + 1, by omega, by go_num, by rw [HS.out]; exact HR6, HE6⟩
            case measure => simp [intOf]; omega
          | false =>
            have hs := HSN.out
            rw [if_neg (of_decide_eq_false HBB.out)] at hs
            have HS := Lib.hid hs
            have f1 := g6.cell e1
            have f2 := g6.cell e2
            have hsz := HE6.out.size
            clear hs g6 e1 e2 e3 e4 e5
            go_wp2_with (at_builtin; refine append_dots_at 46 51 w5.heap.size _ Fk [x] (some ⟨w6.heap.size, 0, none⟩) 1 1 rfl rfl rfl (row_to HR6.out ((Ext.refl _).alloc (.cells #[.int .i64 x.1, .int .i64 x.2] 26))) (.inr ⟨_, 0, rfl, one_dot w6 x⟩) (by omega) (by simp) (by rw [World.size_alloc]; omega) ?_; intro v8 w8 hown8 hgrow8; have HX8 := Lib.hid (ext_grownV (HE6.out.alloc (.cells #[.int .i64 x.1, .int .i64 x.2] 26)) (row_to HR6.out ((Ext.refl _).alloc (.cells #[.int .i64 x.1, .int .i64 x.2] 26))) hgrow8 (Nat.le_refl _)); have HR8 := Lib.hid hown8; clear hown8 hgrow8)
            go_roundw
            case rel => exact ⟨k + 1, by omega, by go_num, by rw [HS.out]; exact HR8, HX8⟩
            case measure => simp [intOf]; omega
        · obtain rfl : k = n := by omega
          have hfull : all.take k = all := List.take_of_length_le (by rw [HN.out]; exact Nat.le_refl _)
          have hr := HR.out
          rw [hfull] at hr
          have hfl := HFL.out all
          rw [HN.out] at hfl
          obtain ⟨pl, cl, rfl⟩ := row_slice hr
          have hdl : DotsV wr (.slice pl (F all).length cl) (F all) := row_dots hr (fun y hy => HF.out y (HFM.out _ _ hy)) (by omega)
          have HSBq := Lib.hid (HSB5.out.ext HE.out)
          have HX3q := Lib.hid (HX35.out.trans HE.out)
          have HDL := Lib.hid hdl
          clear hr hfull HR hdl
          have HGD : Hid ((F all).length ≤ 120) := Lib.hid (by omega)
          obtain ⟨L, hL⟩ : ∃ L, F all = L := ⟨_, rfl⟩
          rw [hL] at HDL HFJ HGD hfl ⊢
          obtain ⟨m, hm⟩ : ∃ m, L.length = m := ⟨_, rfl⟩
          have HM := Lib.hid hm
          rw [hm] at HDL HGD hfl ⊢
          clear hL hm
          generalize wr = wq at *
          go_wp2
          go_loopw [9] (fun iv W => ∃ (j : Nat) (r1 r2 : Option Addr) (d1 d2 : Nat), j ≤ m ∧ iv = .int .i64 j ∧ Hid (SetB W Bx 24 (DS.adds S0 (L.take j)) r1 d1 r2 d2) ∧ Hid (DotsV W (.slice pl m cl) L) ∧ Hid (Ext w3 W)) (fun iv _ => m - (intOf iv).toNat)
          case atStart => exact ⟨0, _, _, _, _, by omega, rfl, HSBq, HDL, HX3q⟩
          case round =>
            obtain ⟨j, r1, r2, d1, d2, hj, rfl, HB, HLD, HE2⟩ := hrel
            by_cases hjm : j < m
            · have hjl : j < L.length := by rw [HM.out]; exact hjm
              obtain ⟨b, off, rfl, hda⟩ : ∃ b off, pl = some ⟨b, off, none⟩ ∧ DotsAt wr b off L := by
                rcases (dotsV_at HLD.out).2 with h | h
                · omega
                · exact h
              obtain ⟨e1, e2⟩ := hda j hjl
              have hokj := DS.adds_ok HOK.out (L.take j)
              have hbl : (DS.adds S0 (L.take j)).base.length ≤ 64 := DS.ok_len hokj.vec
              have hel : (DS.adds S0 (L.take j)).extra.length ≤ 120 := by
                have h1 := DS.adds_extra HOK.out (L.take j)
                have h2 := HS0.out
                rw [h2, List.length_take] at h1
                have h3 := HGD.out
                simp only [List.length_nil] at h1
                omega
              have hsn := DS.adds_snoc S0 L j hjl
              have had := fun W' (he : Ext wr W') => ref_add _ _ L[j] W' ((HB.out.ext he).val) (by omega) (by omega)
              rw [← hsn] at had
              unfold dotV at had
              generalize L[j] = x at *
              generalize hT1 : DS.adds S0 (L.take (j + 1)) = T1 at *
              have HT1 := Lib.hid hT1
              generalize (DS.add (DS.adds S0 (L.take j)) x).2 = bb at *
              have HAD := Lib.hid had
              have i1 : (0 : Int) ≤ (j : Int) := by omega
              have i2 : (j : Int) < (m : Int) := by omega
              have b0 := HB.out.two.c0
              have b1 := HB.out.two.c1
              have b2 := HB.out.two.f0
              have b3 := HB.out.two.f1
              clear had hsn hda hjl hokj hbl hel hT1
              go_upto_region 14 with fail
              refine wp_region_noPanic ?_
              go_region_with (go_at_call 21; refine (HAD.out _ (Ext.refl _).drew).mono ?_; rintro e w7 ⟨v3, rfl, hv3, g4⟩; obtain ⟨vb3, ve3, rfl, hb3, he3⟩ := hv3; have hb3' := Lib.hid hb3; have he3' := Lib.hid he3; obtain ⟨pb3, cb3, rfl, _⟩ := hb3; obtain ⟨pe3, ce3, rfl, _⟩ := he3; have g5 := (Ext.refl _).drew.trans g4; have t2 := HB.out.two.ext g5; have HT2 := Lib.hid t2; have HLD5 := Lib.hid (HLD.out.ext g5); have HE5 := Lib.hid (HE2.out.trans g5); have j1 := t2.c0; have j2 := t2.c1; have j3 := t2.f0; have j4 := t2.f1; clear t2 g4 g5)
              all_goals
                refine NoPanic.normal ?_
                go_wp2_with fail
                go_roundw
                case rel => exact ⟨j + 1, pb3, pe3, cb3, ce3, by omega, by go_num, Lib.hid (by rw [HT1.out]; exact SetB.put HT2.out hb3'.out he3'.out), Lib.hid (HLD5.out.box HT2.out (two_stores w7 Bx _ _)), Lib.hid (ext_grownBy HE5.out (two_stores w7 Bx _ _) HBX.out)⟩
                case measure => simp [intOf]; omega
            · obtain rfl : j = m := by omega
              have hU := Y3.out.ext HE2.out
              have HU := Lib.hid hU
              have b0 := HB.out.two.c0
              have b1 := HB.out.two.c1
              have k0 := hU.c0
              have k1 := hU.c1
              have k2 := hU.f0
              have k3 := hU.f1
              have hjoin : DS.adds S0 (L.take j) = DS.join s t := by
                rw [List.take_of_length_le (by rw [HM.out]; exact Nat.le_refl _)]
                exact HFJ.out
              have HJO := Lib.hid hjoin
              clear hU hjoin
              go_wp2
              refine bodyPost_ret (results_cell_row rfl _ _ (X + 1 + 1) _ _ _ _ rfl ((HU.out.set0 _).set1 _) Try.underlying24 rfl (by kernel_rfl)) rfl ?_
              have hfin := fun x y => (HB.out.other HU.out (two_stores wr (X + 1 + 1) x y) (by have := HB4.out.2; omega)).val
              rw [HJO.out] at hfin
              rw [HJO.out]
              exact ⟨_, rfl, hfin _ _, ((HX3.out.trans HE2.out).setCell (by show w.heap.size ≤ X + 1 + 1; have := HXX.out; omega) _).setCell (by show w.heap.size ≤ X + 1 + 1; have := HXX.out; omega) _⟩
    · have t2 : ((q2 : Int) != 0) = true := bne_iff_ne.2 (by omega)
      have hj := HJ.out
      rw [if_neg (fun h => h2 h.2)] at hj
      have HJN := Lib.hid hj
      clear hj
      go_wp2_with fail
      refine (HCT.out w1 HX1.out).mono ?_
      rintro e w2 ⟨rfl, x2⟩
      have V3 := Lib.hid (U3.out.ext x2)
      have HX2 := Lib.hid (HX1.out.trans x2)
      have k0 := V3.out.c0
      have k1 := V3.out.c1
      have k2 := V3.out.f0
      have k3 := V3.out.f1
      clear a0 a1 x2
      go_wp2
      refine bodyPost_ret (results_cell_row rfl _ _ (X + 1 + 1) _ _ _ _ rfl ((V3.out.set0 _).set1 _) Try.underlying24 rfl (by kernel_rfl)) rfl ?_
      rw [HJN.out]
      exact ⟨_, rfl, setV_zero _, (HX2.out.setCell (by show w.heap.size ≤ X + 1 + 1; have := HXX.out; omega) _).setCell (by show w.heap.size ≤ X + 1 + 1; have := HXX.out; omega) _⟩
  · have t1 : ((q1 : Int) != 0) = true := bne_iff_ne.2 (by omega)
    have hj := HJ.out
    rw [if_neg (fun h => h1 h.1)] at hj
    have HJN := Lib.hid hj
    clear hj
    go_wp2_with fail
    refine (HCS.out W HX.out).mono ?_
    rintro e w1 ⟨rfl, x1⟩
    have HX1 := Lib.hid (HX.out.trans x1)
    have U3 := Lib.hid (T3.out.ext x1)
    have k0 := U3.out.c0
    have k1 := U3.out.c1
    have k2 := U3.out.f0
    have k3 := U3.out.f1
    clear a0 a1 x1
    go_wp2
    refine bodyPost_ret (results_cell_row rfl _ _ (X + 1 + 1) _ _ _ _ rfl ((U3.out.set0 _).set1 _) Try.underlying24 rfl (by kernel_rfl)) rfl ?_
    rw [HJN.out]
    exact ⟨_, rfl, setV_zero _, (HX1.out.setCell (by show w.heap.size ≤ X + 1 + 1; have := HXX.out; omega) _).setCell (by show w.heap.size ≤ X + 1 + 1; have := HXX.out; omega) _⟩

set_option maxRecDepth 100000 in
set_option maxHeartbeats 4000000 in
theorem ref_set_within (u v : Value) (s t : DS.S) (w : World) (hs : SetV w u s) (ht : SetV w v t) (hn1 : s.extra.length ≤ 60) (hn2 : t.extra.length ≤ 60) :
    Calls Try.prog 26 #[u, v] w fun e w' => e = .returned (.bool (DS.within s t)) ∧ Ext w w' := by
  have HCS := Lib.hid (fun W (he : Ext w W) => ref_set_check _ s W (hs.ext he))
  have HCT := Lib.hid (fun W (he : Ext w W) => ref_set_check _ t W (ht.ext he))
  have HJO := Lib.hid (fun W (he : Ext w W) => ref_set_join _ _ s t W (hs.ext he) (ht.ext he) hn1 hn2)
  have HTV := Lib.hid (fun W (he : Ext w W) => ht.ext he)
  obtain ⟨ub, ue, rfl, hub, hue⟩ := hs
  obtain ⟨vb, ve, rfl, hvb, hve⟩ := ht
  obtain ⟨p1, c1, rfl, _⟩ := hub
  obtain ⟨p2, c2, rfl, _⟩ := hue
  obtain ⟨p3, c3, rfl, _⟩ := hvb
  obtain ⟨p4, c4, rfl, _⟩ := hve
  obtain ⟨g1, g2, hx⟩ := two_heap w #[.slice p1 s.base.length c1, .slice p2 s.extra.length c2] #[.slice p3 t.base.length c3, .slice p4 t.extra.length c4] 24 24
  have HX := Lib.hid hx
  obtain ⟨q1, hq1⟩ : ∃ q, DS.check s = q := ⟨_, rfl⟩
  obtain ⟨q2, hq2⟩ : ∃ q, DS.check t = q := ⟨_, rfl⟩
  rw [hq1] at HCS
  rw [hq2] at HCT
  obtain ⟨ans, hans⟩ : ∃ a, DS.within s t = a := ⟨_, rfl⟩
  rw [hans]
  have HANS := Lib.hid hans
  have HQ := Lib.hid (And.intro hq1 hq2)
  clear hx hq1 hq2 hans
  go_enter Try.func26, Try.ntmps26
  go_upto_region 1 with fail
  generalize hW : (w.alloc _).alloc _ = W at *
  generalize hXw : w.heap.size = X at g1 g2 ⊢
  have T1 : Hid (Two W X 24 (.slice p1 s.base.length c1) (.slice p2 s.extra.length c2)) := Lib.hid g1
  have T2 : Hid (Two W (X + 1) 24 (.slice p3 t.base.length c3) (.slice p4 t.extra.length c4)) := Lib.hid g2
  clear hW hXw g1 g2
  have a0 := T1.out.c0
  have a1 := T1.out.c1
  by_cases h1 : q1 = 0
  · subst h1
    go_wp2_with fail
    refine (HCS.out W HX.out).mono ?_
    rintro e w1 ⟨rfl, x1⟩
    have HX1 := Lib.hid (HX.out.trans x1)
    have U1 := Lib.hid (T1.out.ext x1)
    have U2 := Lib.hid (T2.out.ext x1)
    clear a0 a1 x1
    have a0 := U2.out.c0
    have a1 := U2.out.c1
    by_cases h2 : q2 = 0
    · subst h2
      have hans : ans = decide (DS.join s t = t) := by
        rw [← HANS.out]
        unfold DS.within
        rw [decide_eq_decide, ← DS.eq_iff]
        exact ⟨fun h => h.2.2, fun h => ⟨HQ.out.1, HQ.out.2, h⟩⟩
      have HAN := Lib.hid hans
      clear hans
      go_wp2_with fail
      refine (HCT.out w1 HX1.out).mono ?_
      rintro e w2 ⟨rfl, x2⟩
      have HX2 := Lib.hid (HX1.out.trans x2)
      have V1 := Lib.hid (U1.out.ext x2)
      have V2 := Lib.hid (U2.out.ext x2)
      clear a0 a1 x2 T1 T2 U1 U2
      have HF : Hid (∀ W', Ext w2 W' → W'.cell? ⟨X, 0, none⟩ = some (.slice p1 s.base.length c1) ∧ W'.cell? ⟨X, 1, none⟩ = some (.slice p2 s.extra.length c2) ∧ W'.cell? ⟨X + 1, 0, none⟩ = some (.slice p3 t.base.length c3) ∧ W'.cell? ⟨X + 1, 1, none⟩ = some (.slice p4 t.extra.length c4)) := Lib.hid fun W' he =>
        ⟨(V1.out.ext he).c0, (V1.out.ext he).c1, (V2.out.ext he).c0, (V2.out.ext he).c1⟩
      go_wp2
      have HE := Lib.hid ((Ext.refl w2).drew)
      refine wp_region_noPanic ?_
      go_region_held3 (fun w' => w'.cell? ⟨X, 0, none⟩ = some (.slice p1 s.base.length c1) ∧ w'.cell? ⟨X, 1, none⟩ = some (.slice p2 s.extra.length c2) ∧ w'.cell? ⟨X + 1, 0, none⟩ = some (.slice p3 t.base.length c3) ∧ w'.cell? ⟨X + 1, 1, none⟩ = some (.slice p4 t.extra.length c4)) (exact HF.out _ HE.out) (first
        | (go_at_call 24; refine (HJO.out _ (HX2.out.trans HE.out)).mono ?_; rintro e w' ⟨v', rfl, hv, gg⟩; have HE := Lib.hid (HE.out.trans gg); have HJ1 := Lib.hid hv; obtain ⟨vb, ve, rfl, hb, he⟩ := hv; obtain ⟨pj1, cj1, rfl, _⟩ := hb; obtain ⟨pj2, cj2, rfl, _⟩ := he; clear gg)
        | (go_at_call 17; refine (ref_set_same _ _ (DS.join s t) t _ HJ1.out (HTV.out _ (HX2.out.trans HE.out))).mono ?_; rintro e w' ⟨rfl, gg⟩; rw [← HAN.out]; have HE := Lib.hid (HE.out.trans gg); clear gg HJ1))
      all_goals
        refine NoPanic.normal ?_
        go_wp2
        go_ret
        exact ⟨rfl, HX2.out.trans HE.out⟩
    · have t2 : ((q2 : Int) != 0) = true := bne_iff_ne.2 (by omega)
      obtain rfl : ans = false := by rw [← HANS.out]; unfold DS.within; exact decide_eq_false (fun h => h2 (HQ.out.2.symm.trans h.2.1))
      go_wp2_with fail
      refine (HCT.out w1 HX1.out).mono ?_
      rintro e w2 ⟨rfl, x2⟩
      have HX2 := Lib.hid (HX1.out.trans x2)
      clear a0 a1 x2
      go_wp2
      go_ret
      exact ⟨rfl, HX2.out⟩
  · have t1 : ((q1 : Int) != 0) = true := bne_iff_ne.2 (by omega)
    obtain rfl : ans = false := by rw [← HANS.out]; unfold DS.within; exact decide_eq_false (fun h => h1 (HQ.out.1.symm.trans h.1))
    go_wp2_with fail
    refine (HCS.out W HX.out).mono ?_
    rintro e w1 ⟨rfl, x1⟩
    have HX1 := Lib.hid (HX.out.trans x1)
    clear a0 a1 x1
    go_wp2
    go_ret
    exact ⟨rfl, HX1.out⟩
end Go.Proofs.Ytdgjjlffdfpkcaa
