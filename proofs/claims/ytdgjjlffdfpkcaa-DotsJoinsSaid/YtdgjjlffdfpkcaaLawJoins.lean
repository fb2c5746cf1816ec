/- The walk of DotsJoins. -/
import Derived.Test.YtdgjjlffdfpkcaaWithinRef
import Derived.Test.YtdgjjlffdfpkcaaMany
namespace Go.Proofs.Ytdgjjlffdfpkcaa
open Go.RowKit Go.Shelf Go.Lib

theorem same_true {u v : Value} {s : DS.S} {w : World} (hu : SetV w u s) (hv : SetV w v s) : Calls Try.prog 17 #[u, v] w fun e w' => e = .returned (.bool true) ∧ Ext w w' := by
  have h := ref_set_same u v s s w hu hv
  rw [decide_eq_true rfl] at h
  exact h

set_option maxRecDepth 100000 in
set_option maxHeartbeats 40000000 in
theorem law_joins_few (p1 p2 p3 p4 : Option Addr) (n1 c1 n2 c2 n3 c3 n4 c4 : Nat) (s t : DS.S) (w : World) (hs : SetV w (.agg #[.slice p1 n1 c1, .slice p2 n2 c2]) s) (ht : SetV w (.agg #[.slice p3 n3 c3, .slice p4 n4 c4]) t) (hl1 : s.extra.length ≤ 60) (hl2 : t.extra.length ≤ 60) (hn : n1 ≤ 80 ∧ n2 ≤ 60 ∧ n3 ≤ 80 ∧ n4 ≤ 60) :
    Calls Try.prog 7 #[.agg #[.slice p1 n1 c1, .slice p2 n2 c2], .agg #[.slice p3 n3 c3, .slice p4 n4 c4]] w fun e w' => e = .returned (.bool true) ∧ Ext w w' := by
  obtain ⟨g1, g2, hx⟩ := two_heap w #[.slice p1 n1 c1, .slice p2 n2 c2] #[.slice p3 n3 c3, .slice p4 n4 c4] 24 24
  have HX := Lib.hid hx
  have HS := Lib.hid hs
  have HT := Lib.hid ht
  clear hx hs ht
  go_enter Try.func7, Try.ntmps7
  go_upto_region 1 with fail
  generalize hW : (w.alloc _).alloc _ = W at *
  generalize hXw : w.heap.size = X at g1 g2 ⊢
  have T1 : Hid (Two W X 24 (.slice p1 n1 c1) (.slice p2 n2 c2)) := Lib.hid g1
  have T2 : Hid (Two W (X + 1) 24 (.slice p3 n3 c3) (.slice p4 n4 c4)) := Lib.hid g2
  clear hW hXw g1 g2
  have a0 := T1.out.c0
  have a1 := T1.out.c1
  have b0 := T2.out.c0
  have b1 := T2.out.c1
  have hm := dots_many W.heap.size 0 2 2 (fun i => if i = 0 then p1 else p3) (fun i => if i = 0 then p2 else p4) (fun i => if i = 0 then n1 else n3) (fun i => if i = 0 then c1 else c3) (fun i => if i = 0 then n2 else n4) (fun i => if i = 0 then c2 else c4) (W.alloc (.cells #[.slice p1 n1 c1, .slice p2 n2 c2, .slice p3 n3 c3, .slice p4 n4 c4] 24)) (by omega) (fun i hi => by
    have : i = 0 ∨ i = 1 := by omega
    rcases this with rfl | rfl
    · exact ⟨alloc_cell _ _ _ 0, alloc_cell _ _ _ 1⟩
    · exact ⟨alloc_cell _ _ _ 2, alloc_cell _ _ _ 3⟩)
  rw [decide_eq_false (by
    rintro ⟨i, hi, h⟩
    have : i = 0 ∨ i = 1 := by omega
    rcases this with rfl | rfl <;> simp at h <;> omega)] at hm
  have HM := Lib.hid hm
  clear hm
  go_wp2_with fail
  refine HM.out.mono ?_
  rintro e w2 ⟨rfl, x2⟩
  have hx2 := ((Ext.refl W).alloc (.cells #[.slice p1 n1 c1, .slice p2 n2 c2, .slice p3 n3 c3, .slice p4 n4 c4] 24)).trans x2
  have HX2 := Lib.hid (HX.out.trans hx2)
  have HF : Hid (∀ W', Ext w2 W' → W'.cell? ⟨X, 0, none⟩ = some (.slice p1 n1 c1) ∧ W'.cell? ⟨X, 1, none⟩ = some (.slice p2 n2 c2) ∧ W'.cell? ⟨X + 1, 0, none⟩ = some (.slice p3 n3 c3) ∧ W'.cell? ⟨X + 1, 1, none⟩ = some (.slice p4 n4 c4)) := Lib.hid fun W' he =>
    ⟨(T1.out.ext (hx2.trans he)).c0, (T1.out.ext (hx2.trans he)).c1, (T2.out.ext (hx2.trans he)).c0, (T2.out.ext (hx2.trans he)).c1⟩
  have HS2 := Lib.hid (HS.out.ext HX2.out)
  have HT2 := Lib.hid (HT.out.ext HX2.out)
  obtain ⟨bb, hbb⟩ : ∃ bb, DS.within s t = bb := ⟨_, rfl⟩
  have HWI := Lib.hid (fun W' (he : Ext w2 W') => set_within _ _ s t W' (HS2.out.ext he) (HT2.out.ext he) (by omega))
  have HRWI := Lib.hid (fun W' (he : Ext w2 W') => ref_set_within _ _ s t W' (HS2.out.ext he) (HT2.out.ext he) hl1 hl2)
  rw [hbb] at HWI HRWI
  have HJO := Lib.hid (fun W' (he : Ext w2 W') => set_join _ _ s t W' (HS2.out.ext he) (HT2.out.ext he) (by omega) (by omega))
  have HRJO := Lib.hid (fun W' (he : Ext w2 W') => ref_set_join _ _ s t W' (HS2.out.ext he) (HT2.out.ext he) hl1 hl2)
  generalize DS.join s t = J at *
  have t1 : (bb == bb) = true := beq_self_eq_true bb
  clear a0 a1 b0 b1 x2 hx2 HM hbb HS HT HX T1 T2
  go_wp2
  have HE := Lib.hid ((Ext.refl w2).drew)
  refine wp_region_noPanic ?_
  go_region_held3 (fun w' => w'.cell? ⟨X, 0, none⟩ = some (.slice p1 n1 c1) ∧ w'.cell? ⟨X, 1, none⟩ = some (.slice p2 n2 c2) ∧ w'.cell? ⟨X + 1, 0, none⟩ = some (.slice p3 n3 c3) ∧ w'.cell? ⟨X + 1, 1, none⟩ = some (.slice p4 n4 c4)) (exact HF.out _ HE.out) (first
    | (go_at_call 10; refine (dots_own _ _ _ _ _ _ _).mono ?_; rintro e w' ⟨rfl, gg⟩; have HE := Lib.hid (HE.out.trans gg); (try have HJ1 := Lib.hid (HJ1.out.ext gg)); (try have HR1 := Lib.hid (HR1.out.ext gg)); clear gg)
    | (go_at_call 22; refine (dots_its _ _ _ _ _ _ _).mono ?_; rintro e w' ⟨rfl, gg⟩; have HE := Lib.hid (HE.out.trans gg); (try have HJ1 := Lib.hid (HJ1.out.ext gg)); (try have HR1 := Lib.hid (HR1.out.ext gg)); clear gg)
    | (go_at_call 23; refine (HJO.out _ HE.out).mono ?_; rintro e w' ⟨v', rfl, hv, gg⟩; have HE := Lib.hid (HE.out.trans gg); (try have HR1 := Lib.hid (HR1.out.ext gg)); have HJ1 := Lib.hid hv; obtain ⟨vb, ve, rfl, hb, he⟩ := hv; obtain ⟨pj1, cj1, rfl, _⟩ := hb; obtain ⟨pj2, cj2, rfl, _⟩ := he; clear gg)
    | (go_at_call 24; refine (HRJO.out _ HE.out).mono ?_; rintro e w' ⟨v', rfl, hv, gg⟩; have HE := Lib.hid (HE.out.trans gg); (try have HJ1 := Lib.hid (HJ1.out.ext gg)); have HR1 := Lib.hid hv; obtain ⟨vb, ve, rfl, hb, he⟩ := hv; obtain ⟨pr1, cr1, rfl, _⟩ := hb; obtain ⟨pr2, cr2, rfl, _⟩ := he; clear gg)
    | (go_at_call 17; refine (same_true HJ1.out HR1.out).mono ?_; rintro e w' ⟨rfl, gg⟩; have HE := Lib.hid (HE.out.trans gg); clear gg HJ1 HR1)
    | (go_at_call 25; refine (HWI.out _ HE.out).mono ?_; rintro e w' ⟨rfl, gg⟩; have HE := Lib.hid (HE.out.trans gg); clear gg)
    | (go_at_call 26; refine (HRWI.out _ HE.out).mono ?_; rintro e w' ⟨rfl, gg⟩; have HE := Lib.hid (HE.out.trans gg); clear gg)
    | (go_at_call 9; refine (dots_awake _).mono ?_; rintro e w' ⟨rfl, gg⟩; have HE := Lib.hid (HE.out.trans gg); clear gg))
  all_goals
    refine NoPanic.normal ?_
    go_wp2
    go_ret
    exact ⟨rfl, HX2.out.trans HE.out⟩

set_option maxRecDepth 100000 in
theorem law_joins (p1 p2 p3 p4 : Option Addr) (n1 c1 n2 c2 n3 c3 n4 c4 : Nat) (l1 l2 l3 l4 : List Dot) (w : World) (k1 : n1 ≤ c1) (m1 : c1 ≤ maxLen) (e1 : DotsW w p1 n1 l1) (k2 : n2 ≤ c2) (m2 : c2 ≤ maxLen) (e2 : DotsW w p2 n2 l2) (k3 : n3 ≤ c3) (m3 : c3 ≤ maxLen) (e3 : DotsW w p3 n3 l3) (k4 : n4 ≤ c4) (m4 : c4 ≤ maxLen) (e4 : DotsW w p4 n4 l4) :
    Calls Try.prog 7 #[.agg #[.slice p1 n1 c1, .slice p2 n2 c2], .agg #[.slice p3 n3 c3, .slice p4 n4 c4]] w fun e w' => e = .returned (.bool true) ∧ Ext w w' := by
  by_cases hg : (80 < n1 ∨ 60 < n2) ∨ (80 < n3 ∨ 60 < n4)
  · obtain ⟨g1, g2, hx⟩ := two_heap w #[.slice p1 n1 c1, .slice p2 n2 c2] #[.slice p3 n3 c3, .slice p4 n4 c4] 24 24
    have HX := Lib.hid hx
    clear hx e1 e2 e3 e4 k1 k2 k3 k4 m1 m2 m3 m4
    go_enter Try.func7, Try.ntmps7
    go_upto_region 1 with fail
    generalize hW : (w.alloc _).alloc _ = W at *
    generalize hXw : w.heap.size = X at g1 g2 ⊢
    have T1 : Hid (Two W X 24 (.slice p1 n1 c1) (.slice p2 n2 c2)) := Lib.hid g1
    have T2 : Hid (Two W (X + 1) 24 (.slice p3 n3 c3) (.slice p4 n4 c4)) := Lib.hid g2
    clear hW hXw g1 g2
    have a0 := T1.out.c0
    have a1 := T1.out.c1
    have b0 := T2.out.c0
    have b1 := T2.out.c1
    have hm := dots_many W.heap.size 0 2 2 (fun i => if i = 0 then p1 else p3) (fun i => if i = 0 then p2 else p4) (fun i => if i = 0 then n1 else n3) (fun i => if i = 0 then c1 else c3) (fun i => if i = 0 then n2 else n4) (fun i => if i = 0 then c2 else c4) (W.alloc (.cells #[.slice p1 n1 c1, .slice p2 n2 c2, .slice p3 n3 c3, .slice p4 n4 c4] 24)) (by omega) (fun i hi => by
      have : i = 0 ∨ i = 1 := by omega
      rcases this with rfl | rfl
      · exact ⟨alloc_cell _ _ _ 0, alloc_cell _ _ _ 1⟩
      · exact ⟨alloc_cell _ _ _ 2, alloc_cell _ _ _ 3⟩)
    rw [decide_eq_true (by
      rcases hg with h | h
      · exact ⟨0, by omega, by simpa using h⟩
      · exact ⟨1, by omega, by simpa using h⟩)] at hm
    have HM := Lib.hid hm
    clear hm hg
    go_wp2_with fail
    refine HM.out.mono ?_
    rintro e w2 ⟨rfl, x2⟩
    have HX2 := Lib.hid (HX.out.trans (((Ext.refl W).alloc (.cells #[.slice p1 n1 c1, .slice p2 n2 c2, .slice p3 n3 c3, .slice p4 n4 c4] 24)).trans x2))
    clear a0 a1 b0 b1 x2
    go_wp2_with fail
    refine (dots_awake _).mono ?_
    rintro e w7 ⟨rfl, g7⟩
    go_wp2
    go_ret
    exact ⟨rfl, HX2.out.trans g7⟩
  · have h2 := e2.1
    have h4 := e4.1
    exact law_joins_few p1 p2 p3 p4 n1 c1 n2 c2 n3 c3 n4 c4 ⟨l1, l2⟩ ⟨l3, l4⟩ w (setV_of k1 m1 e1 k2 m2 e2 (by omega) (by omega)) (setV_of k3 m3 e3 k4 m4 e4 (by omega) (by omega)) (by show l2.length ≤ 60; omega) (by show l4.length ≤ 60; omega) (by omega)
end Go.Proofs.Ytdgjjlffdfpkcaa
