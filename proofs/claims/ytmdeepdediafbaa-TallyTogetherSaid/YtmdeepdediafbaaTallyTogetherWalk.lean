/- TallyTogether answers true. -/
import Derived.Test.YtmdeepdediafbaaTogetherPlain
namespace Go.Proofs.Ytmdeepdediafbaa
open Go.RowKit
attribute [local go_sem] Oper.semAt_some

theorem there_cells1 (w : World) (o : Obj) (C : Array Value) (hC : C.size = 45) (t : TypeId) (x : Nat → Int) (g : Value) : ((w.alloc o).alloc (.cells C t)).there (w.heap.size + 1) 0 (tallyCells x g).toArray.size := by
  have := there_cells (w.alloc o) C hC t x g
  rwa [World.size_alloc] at this

theorem laid_two {w : World} {g h : Value} {G H : List Dot} (hg : DotsV w g G) (hh : DotsV w h H) (x y : Nat → Int) (C : Array Value) (hC : C.size = 45) (t : TypeId) :
    TallyIn ((((w.alloc (.cells C t)).alloc (.cells C t)).setCells w.heap.size 0 (tallyCells x g)).setCells (w.heap.size + 1) 0 (tallyCells y h)) w.heap.size x g G ∧
    TallyIn ((((w.alloc (.cells C t)).alloc (.cells C t)).setCells w.heap.size 0 (tallyCells x g)).setCells (w.heap.size + 1) 0 (tallyCells y h)) (w.heap.size + 1) y h H ∧
    Ext w ((((w.alloc (.cells C t)).alloc (.cells C t)).setCells w.heap.size 0 (tallyCells x g)).setCells (w.heap.size + 1) 0 (tallyCells y h)) := by
  have hE : Ext w ((((w.alloc (.cells C t)).alloc (.cells C t)).setCells w.heap.size 0 (tallyCells x g)).setCells (w.heap.size + 1) 0 (tallyCells y h)) := Ext.setCells _ (by omega) _ _ _ (Ext.setCells _ (Nat.le_refl _) _ _ _ (((Ext.refl _).alloc _).alloc _))
  refine ⟨⟨?_, hg.ext hE⟩, ⟨?_, hh.ext hE⟩, hE⟩
  · exact World.rangeAt_setCells_apart (World.rangeAt_setCells_same _ _ _ _ (World.there_alloc (there_cells w C hC t x g) _)) _ _ _ (.inl (by omega))
  · exact World.rangeAt_setCells_same _ _ _ _ (World.there_setCells (there_cells1 w _ C hC t y h) _ _ _)

theorem keep_three {w w' : World} {T1 T2 T3 : Nat} {X1 X2 X3 : List Value} (he : Ext w w') (h : w.rangeAt T1 0 X1 ∧ w.rangeAt T2 0 X2 ∧ w.rangeAt T3 0 X3) : w'.rangeAt T1 0 X1 ∧ w'.rangeAt T2 0 X2 ∧ w'.rangeAt T3 0 X3 :=
  ⟨fun j v hv => he.cell (h.1 j v hv), fun j v hv => he.cell (h.2.1 j v hv), fun j v hv => he.cell (h.2.2 j v hv)⟩

theorem with_none (x : Nat → Int) (g : Value) (G : List Dot) (hx : ∀ i, 0 ≤ x i ∧ x i ≤ 1000000) (w : World) (hg : DotsV w g G) :
    Calls Try.prog 14 #[.agg (tallyCells x g).toArray, .agg ([.int .i64 0, .int .i64 0, .int .i64 0, .int .i64 0, .int .i64 0, .int .i64 0, .int .i64 0, .int .i64 0, .int .i64 0, .int .i64 0, .int .i64 0, .int .i64 0, .int .i64 0, .int .i64 0, .int .i64 0, .int .i64 0, .int .i64 0, .int .i64 0, .int .i64 0, .int .i64 0, .int .i64 0, .int .i64 0, .int .i64 0, .int .i64 0, .int .i64 0, .int .i64 0, .int .i64 0, .int .i64 0, .int .i64 0, .int .i64 0, .int .i64 0, .int .i64 0, .int .i64 0, .int .i64 0, .int .i64 0, .int .i64 0, .int .i64 0, .int .i64 0, .int .i64 0, .int .i64 0, .int .i64 0, .int .i64 0, .int .i64 0, .int .i64 0, .slice none 0 0] : List Value).toArray] w fun e w' => ∃ k, e = .returned (.agg (tallyCells (fun j => x j + (fun _ => 0) j) k).toArray) ∧ DotsV w' k (Vec.joinL G []) ∧ Ext w w' :=
  tally_with x (fun _ => 0) g (.slice none 0 0) G [] w hx (fun _ => by simp) hg ⟨none, 0, rfl, by simp, by unfold maxLen; omega, rfl, by simp, by simp, .inl rfl⟩

theorem row_start (w : World) : (w.alloc (.cells #[] 49)).ownsRow w.heap.size 49 12 (.slice (some ⟨w.heap.size, 0, none⟩) 0 0) ([] : List Ev).length (evCells []) :=
  ⟨rfl, .inr ⟨w.heap.size, 0, #[], rfl, Nat.le_refl _, World.alloc_heap_new w _, Nat.le_refl _, by unfold maxLen; omega, rfl, rfl⟩⟩

theorem bound_of (l : List Ev) (h : l.length ≤ 200) : ∀ i, 0 ≤ countAll l i ∧ countAll l i ≤ 1000000 := fun i => by have := countAll_le l i; omega

set_option maxRecDepth 100000 in
set_option maxHeartbeats 4000000 in
theorem tallyTogether_walk (p1 : Option Addr) (n1 c1 : Nat) (a : List Ev) (p2 : Option Addr) (n2 c2 : Nat) (b : List Ev) (w : World) (hA : Events w p1 n1 a) (hB : Events w p2 n2 b) :
    Calls Try.prog 5 #[.slice p1 n1 c1, .slice p2 n2 c2] w fun e w' => e = .returned (.bool true) ∧ Ext w w' := by
  by_cases h1 : 200 < n1
  · have d1 : decide ((n1 : Int) > 200) = true := decide_eq_true (by omega)
    go_enter Try.func5, Try.ntmps5
    go_wp2_with fail
    refine (tally_awake _).mono ?_
    rintro e w2 ⟨rfl, g2⟩
    go_wp2
    go_ret
    exact ⟨rfl, g2⟩
  · have d1 : decide ((n1 : Int) > 200) = false := decide_eq_false (by omega)
    by_cases h2 : 200 < n2
    · have d2 : decide ((n2 : Int) > 200) = true := decide_eq_true (by omega)
      go_enter Try.func5, Try.ntmps5
      go_wp2_with fail
      refine (tally_awake _).mono ?_
      rintro e w2 ⟨rfl, g2⟩
      go_wp2
      go_ret
      exact ⟨rfl, g2⟩
    · have d2 : decide ((n2 : Int) > 200) = false := decide_eq_false (by omega)
      have HA := Lib.hid hA
      have HB := Lib.hid hB
      clear hA hB
      go_enter Try.func5, Try.ntmps5
      go_wp2_with fail
      refine (tally_of p1 n1 c1 a _ (by omega) HA.out).mono ?_
      rintro e w2 ⟨ga, rfl, hda, g2⟩
      go_wp2_with fail
      refine (tally_of p2 n2 c2 b _ (by omega) (HB.out.ext g2)).mono ?_
      rintro e w3 ⟨gb, rfl, hdb, g3⟩
      have hoa := all_oneCell_toArray (tallyCells_one (x := countAll a) hda)
      have hob := all_oneCell_toArray (tallyCells_one (x := countAll b) hdb)
      go_upto_region 4 with (first | ((with_reducible refine store_mid_at 28 5 18 w3.heap.size 0 (tallyCells (countAll a) ga).toArray ?_ ?_ ?_ (info_cellsA _ _) hoa ?_); rfl; rfl; exact World.there_alloc (there_cells _ _ rfl _ _ _) _; skip) | ((with_reducible refine store_mid_at 28 6 20 (w3.heap.size + 1) 0 (tallyCells (countAll b) gb).toArray ?_ ?_ ?_ (info_cellsA _ _) hob ?_); rfl; rfl; exact World.there_setCells (there_cells1 _ _ _ rfl _ _ _) _ _ _; skip))
      generalize hL : ([.int .i64 0, .int .i64 0, .int .i64 0, .int .i64 0, .int .i64 0, .int .i64 0, .int .i64 0, .int .i64 0, .int .i64 0, .int .i64 0, .int .i64 0, .int .i64 0, .int .i64 0, .int .i64 0, .int .i64 0, .int .i64 0, .int .i64 0, .int .i64 0, .int .i64 0, .int .i64 0, .int .i64 0, .int .i64 0, .int .i64 0, .int .i64 0, .int .i64 0, .int .i64 0, .int .i64 0, .int .i64 0, .int .i64 0, .int .i64 0, .int .i64 0, .int .i64 0, .int .i64 0, .int .i64 0, .int .i64 0, .int .i64 0, .int .i64 0, .int .i64 0, .int .i64 0, .int .i64 0, .int .i64 0, .int .i64 0, .int .i64 0, .int .i64 0, .slice none 0 0] : List Value) = L
      have hLs : L.toArray.size = 45 := by rw [← hL]; rfl
      obtain ⟨hTa, hTb, hx⟩ := laid_two (hda.ext g3) hdb (countAll a) (countAll b) L.toArray hLs 28
      clear hL hLs hoa hob hda hdb
      have hx4 := (g2.trans g3).trans hx
      generalize (((w3.alloc (.cells L.toArray 28)).alloc (.cells L.toArray 28)).setCells w3.heap.size 0 (tallyCells (countAll a) ga)).setCells (w3.heap.size + 1) 0 (tallyCells (countAll b) gb) = w4 at *
      generalize w3.heap.size = T at *
      generalize Value.agg (tallyCells (countAll a) ga).toArray = VA at *
      generalize Value.agg (tallyCells (countAll b) gb).toArray = VB at *
      clear hx g2 g3
      have HTA := Lib.hid hTa
      have HTB := Lib.hid hTb
      have HX4 := Lib.hid hx4
      have hown := row_start w4
      have hA4 := HA.out.ext (hx4.trans ((Ext.refl w4).alloc (.cells #[] 49)))
      have la := HA.out.1
      have lb := HB.out.1
      clear hTa hTb hx4
      go_wp2_with (first | (refine append_evs_at 21 22 w4.heap.size _ [] a p1 c1 n1 la.symm rfl rfl hown (la ▸ hA4) (by simp) (by omega) (by simp) ?_; intro v5 w5 hown5 hg5; have hx5 := ((Ext.refl w4).alloc (.cells #[] 49)).grown hg5 (ownsRow_from hown); have hB5 := HB.out.ext (HX4.out.trans hx5); have hs5 := hx5.size) | (refine append_evs_at 23 24 w4.heap.size _ ([] ++ a) b p2 c2 n2 lb.symm rfl rfl hown5 (lb ▸ hB5) (by simp; omega) (by omega) hs5 ?_; intro v6 w6 hown6 hg6; have hx6 := hx5.grown hg6 (ownsRow_from hown5); obtain ⟨p6, c6, rfl, hE6⟩ := row_events hown6 (by intro e he; simp only [List.nil_append, List.mem_append] at he; rcases he with he | he; exact HA.out.2.2.1 e he; exact HB.out.2.2.1 e he) (by simp; omega)))
      have e6 : (([] : List Ev) ++ a ++ b).length = n1 + n2 := by simp [la, lb]
      rw [e6, List.nil_append] at hE6
      refine (tally_of p6 (n1 + n2) c6 (a ++ b) _ (by omega) hE6).mono ?_
      rintro e w7 ⟨gc, rfl, hdc, g7⟩
      have hoc := all_oneCell_toArray (tallyCells_one (x := countAll (a ++ b)) hdc)
      have hEX := hx6.trans g7
      clear hown hown5 hown6 hg5 hg6 hB5 hA4 hE6 hx5 hx6 hs5 e6 g7
      go_upto_region 5 with (first | ((with_reducible refine store_mid_at 28 7 26 w7.heap.size 0 (tallyCells (countAll (a ++ b)) gc).toArray ?_ ?_ (there_cells _ _ rfl _ _ _) (info_cellsA _ _) hoc ?_); rfl; rfl; skip))
      generalize hL : ([.int .i64 0, .int .i64 0, .int .i64 0, .int .i64 0, .int .i64 0, .int .i64 0, .int .i64 0, .int .i64 0, .int .i64 0, .int .i64 0, .int .i64 0, .int .i64 0, .int .i64 0, .int .i64 0, .int .i64 0, .int .i64 0, .int .i64 0, .int .i64 0, .int .i64 0, .int .i64 0, .int .i64 0, .int .i64 0, .int .i64 0, .int .i64 0, .int .i64 0, .int .i64 0, .int .i64 0, .int .i64 0, .int .i64 0, .int .i64 0, .int .i64 0, .int .i64 0, .int .i64 0, .int .i64 0, .int .i64 0, .int .i64 0, .int .i64 0, .int .i64 0, .int .i64 0, .int .i64 0, .int .i64 0, .int .i64 0, .int .i64 0, .int .i64 0, .slice none 0 0] : List Value) = L7
      have hLs : L7.toArray.size = 45 := by rw [← hL]; rfl
      obtain ⟨hTc, hx7⟩ := laid_cells hdc (countAll (a ++ b)) L7.toArray hLs 28
      clear hL hLs hoc hdc
      have hEY := hEX.trans hx7
      generalize (w7.alloc (.cells L7.toArray 28)).setCells w7.heap.size 0 (tallyCells (countAll (a ++ b)) gc) = w8 at *
      generalize w7.heap.size = T7 at *
      generalize Value.agg (tallyCells (countAll (a ++ b)) gc).toArray = VC at *
      have hS0 : w8.drew.rangeAt T7 0 (tallyCells (countAll (a ++ b)) gc) ∧ w8.drew.rangeAt T 0 (tallyCells (countAll a) ga) ∧ w8.drew.rangeAt (T + 1) 0 (tallyCells (countAll b) gb) := ⟨hTc.rng, (HTA.out.ext hEY).rng, (HTB.out.ext hEY).rng⟩
      have HDA := Lib.hid (HTA.out.ext hEY).dots
      have HDB := Lib.hid (HTB.out.ext hEY).dots
      have HDC := Lib.hid hTc.dots
      have HBA := Lib.hid (bound_of a (by omega))
      have HBB := Lib.hid (bound_of b (by omega))
      have HW0 := Lib.hid (with_none (countAll a) ga (giveAll a) HBA.out)
      have HX8 := Lib.hid (HX4.out.trans hEY)
      have hu := Try.underlying28
      clear hTc hEX hEY hx7 HTA HTB HX4 HA HB
      refine wp_region_noPanic ?_
      refine wp_region_held_drew (S := fun w' => w'.rangeAt T7 0 (tallyCells (countAll (a ++ b)) gc) ∧ w'.rangeAt T 0 (tallyCells (countAll a) ga) ∧ w'.rangeAt (T + 1) 0 (tallyCells (countAll b) gb)) (by kernel_rfl) hS0 (fun hHeld => ?_)
      refine wpAnyH_take (i := 0) (oi := ?oi0) (v := ?v0) (hi := ?hi0) (hs := ?hs0) (hf := ?hf0) (hr := ?hr0) (hQ := fun _ _ _ h => h) (hy := ?hy0) (hS := hHeld) (h := ?hh0)
      case hi0 => simp only [List.getElem?_toArray, List.getElem?_cons_succ, List.getElem?_cons_zero]; rfl
      case hs0 => kernel_rfl
      case hf0 => kernel_rfl
      case hr0 => kernel_rfl
      case hy0 => refine yieldsIf_load_mid ?_ 28 (.tmp 7) ?_ (T7) 0 ?_ (tallyCells (countAll (a ++ b)) gc) _ ?_ hu rfl (info_cells _ _); rfl; rfl; rfl; exact fun _ h => h.1
      try simp only [Act.put, List.setIfInBounds_toArray, List.set_cons_zero, List.set_cons_succ]
      refine wpAnyH_take (i := 1) (oi := ?oi1) (v := ?v1) (hi := ?hi1) (hs := ?hs1) (hf := ?hf1) (hr := ?hr1) (hQ := fun _ _ _ h => h) (hy := ?hy1) (hS := hHeld) (h := ?hh1)
      case hi1 => simp only [List.getElem?_toArray, List.getElem?_cons_succ, List.getElem?_cons_zero]; rfl
      case hs1 => kernel_rfl
      case hf1 => kernel_rfl
      case hr1 => kernel_rfl
      case hy1 => refine yieldsIf_load_mid ?_ 28 (.tmp 5) ?_ (T) 0 ?_ (tallyCells (countAll a) ga) _ ?_ hu rfl (info_cells _ _); rfl; rfl; rfl; exact fun _ h => h.2.1
      try simp only [Act.put, List.setIfInBounds_toArray, List.set_cons_zero, List.set_cons_succ]
      refine wpAnyH_take (i := 2) (oi := ?oi2) (v := ?v2) (hi := ?hi2) (hs := ?hs2) (hf := ?hf2) (hr := ?hr2) (hQ := fun _ _ _ h => h) (hy := ?hy2) (hS := hHeld) (h := ?hh2)
      case hi2 => simp only [List.getElem?_toArray, List.getElem?_cons_succ, List.getElem?_cons_zero]; rfl
      case hs2 => kernel_rfl
      case hf2 => kernel_rfl
      case hr2 => kernel_rfl
      case hy2 => refine yieldsIf_load_mid ?_ 28 (.tmp 6) ?_ (T + 1) 0 ?_ (tallyCells (countAll b) gb) _ ?_ hu rfl (info_cells _ _); rfl; rfl; rfl; exact fun _ h => h.2.2
      try simp only [Act.put, List.setIfInBounds_toArray, List.set_cons_zero, List.set_cons_succ]
      refine wpAnyH_ready (rs := [3]) (by kernel_rfl) (by simp) ?_
      refine AllReadyH.cons (o := ?oi3) (ho := ?hi3) (h := ?hh3) (hs := AllReadyH.nil)
      case hi3 => simp only [List.getElem?_toArray, List.getElem?_cons_succ, List.getElem?_cons_zero]; rfl
      intro K hK
      go_simp
      refine (tally_with (countAll a) (countAll b) ga gb _ _ _ HBA.out HBB.out (HDA.out.ext ((Ext.refl _).drewN 1)) (HDB.out.ext ((Ext.refl _).drewN 1))).mono ?_
      rintro e w9 ⟨k9, rfl, hk9, g9⟩
      go_wp2_with fail
      refine hK.out _ _ (keep_three g9 hHeld) (fun hHeld => ?_)
      clear hK K
      try simp only [Act.put, List.setIfInBounds_toArray, List.set_cons_zero, List.set_cons_succ]
      refine wpAnyH_ready (rs := [4]) (by kernel_rfl) (by simp) ?_
      refine AllReadyH.cons (o := ?oi4) (ho := ?hi4) (h := ?hh4) (hs := AllReadyH.nil)
      case hi4 => simp only [List.getElem?_toArray, List.getElem?_cons_succ, List.getElem?_cons_zero]; rfl
      intro K hK
      go_simp
      refine (tally_same _ _ gc k9 _ _ _ (HDC.out.ext (((Ext.refl _).drewN 1).trans g9)) hk9).mono ?_
      rw [same_both]
      rintro e w10 ⟨rfl, g10⟩
      go_wp2_with fail
      refine hK.out _ _ (keep_three g10 hHeld) (fun hHeld => ?_)
      clear hK K
      try simp only [Act.put, List.setIfInBounds_toArray, List.set_cons_zero, List.set_cons_succ]
      refine wpAnyH_take (i := 5) (oi := ?oi5) (v := ?v5) (hi := ?hi5) (hs := ?hs5) (hf := ?hf5) (hr := ?hr5) (hQ := fun _ _ _ h => h) (hy := ?hy5) (hS := hHeld) (h := ?hh5)
      case hi5 => simp only [List.getElem?_toArray, List.getElem?_cons_succ, List.getElem?_cons_zero]; rfl
      case hs5 => kernel_rfl
      case hf5 => kernel_rfl
      case hr5 => kernel_rfl
      case hy5 => refine Or.inl ⟨by rfl, ?_⟩; intro w hSw; (try dsimp only at hSw); go_simp; first | done | with_reducible rfl
      try simp only [Act.put, List.setIfInBounds_toArray, List.set_cons_zero, List.set_cons_succ]
      refine wpAnyH_take (i := 6) (oi := ?oi6) (v := ?v6) (hi := ?hi6) (hs := ?hs6) (hf := ?hf6) (hr := ?hr6) (hQ := fun _ _ _ h => h) (hy := ?hy6) (hS := hHeld) (h := ?hh6)
      case hi6 => simp only [List.getElem?_toArray, List.getElem?_cons_succ, List.getElem?_cons_zero]; rfl
      case hs6 => kernel_rfl
      case hf6 => kernel_rfl
      case hr6 => kernel_rfl
      case hy6 => refine yieldsIf_load_mid ?_ 28 (.tmp 7) ?_ (T7) 0 ?_ (tallyCells (countAll (a ++ b)) gc) _ ?_ hu rfl (info_cells _ _); rfl; rfl; rfl; exact fun _ h => h.1
      try simp only [Act.put, List.setIfInBounds_toArray, List.set_cons_zero, List.set_cons_succ]
      refine wpAnyH_take (i := 7) (oi := ?oi7) (v := ?v7) (hi := ?hi7) (hs := ?hs7) (hf := ?hf7) (hr := ?hr7) (hQ := fun _ _ _ h => h) (hy := ?hy7) (hS := hHeld) (h := ?hh7)
      case hi7 => simp only [List.getElem?_toArray, List.getElem?_cons_succ, List.getElem?_cons_zero]; rfl
      case hs7 => kernel_rfl
      case hf7 => kernel_rfl
      case hr7 => kernel_rfl
      case hy7 => refine yieldsIf_load_mid ?_ 28 (.tmp 6) ?_ (T + 1) 0 ?_ (tallyCells (countAll b) gb) _ ?_ hu rfl (info_cells _ _); rfl; rfl; rfl; exact fun _ h => h.2.2
      try simp only [Act.put, List.setIfInBounds_toArray, List.set_cons_zero, List.set_cons_succ]
      refine wpAnyH_take (i := 8) (oi := ?oi8) (v := ?v8) (hi := ?hi8) (hs := ?hs8) (hf := ?hf8) (hr := ?hr8) (hQ := fun _ _ _ h => h) (hy := ?hy8) (hS := hHeld) (h := ?hh8)
      case hi8 => simp only [List.getElem?_toArray, List.getElem?_cons_succ, List.getElem?_cons_zero]; rfl
      case hs8 => kernel_rfl
      case hf8 => kernel_rfl
      case hr8 => kernel_rfl
      case hy8 => refine yieldsIf_load_mid ?_ 28 (.tmp 5) ?_ (T) 0 ?_ (tallyCells (countAll a) ga) _ ?_ hu rfl (info_cells _ _); rfl; rfl; rfl; exact fun _ h => h.2.1
      try simp only [Act.put, List.setIfInBounds_toArray, List.set_cons_zero, List.set_cons_succ]
      refine wpAnyH_ready (rs := [9]) (by kernel_rfl) (by simp) ?_
      refine AllReadyH.cons (o := ?oi9) (ho := ?hi9) (h := ?hh9) (hs := AllReadyH.nil)
      case hi9 => simp only [List.getElem?_toArray, List.getElem?_cons_succ, List.getElem?_cons_zero]; rfl
      intro K hK
      go_simp
      refine (tally_with (countAll b) (countAll a) gb ga _ _ _ HBB.out HBA.out (HDB.out.ext ((((Ext.refl _).drewN 1).trans g9).trans g10)) (HDA.out.ext ((((Ext.refl _).drewN 1).trans g9).trans g10))).mono ?_
      rintro e w11 ⟨k11, rfl, hk11, g11⟩
      go_wp2_with fail
      refine hK.out _ _ (keep_three g11 hHeld) (fun hHeld => ?_)
      clear hK K
      try simp only [Act.put, List.setIfInBounds_toArray, List.set_cons_zero, List.set_cons_succ]
      refine wpAnyH_ready (rs := [10]) (by kernel_rfl) (by simp) ?_
      refine AllReadyH.cons (o := ?oi10) (ho := ?hi10) (h := ?hh10) (hs := AllReadyH.nil)
      case hi10 => simp only [List.getElem?_toArray, List.getElem?_cons_succ, List.getElem?_cons_zero]; rfl
      intro K hK
      go_simp
      refine (tally_same _ _ gc k11 _ _ _ (HDC.out.ext (((((Ext.refl _).drewN 1).trans g9).trans g10).trans g11)) hk11).mono ?_
      rw [same_turned]
      rintro e w12 ⟨rfl, g12⟩
      go_wp2_with fail
      refine hK.out _ _ (keep_three g12 hHeld) (fun hHeld => ?_)
      clear hK K
      try simp only [Act.put, List.setIfInBounds_toArray, List.set_cons_zero, List.set_cons_succ]
      refine wpAnyH_take (i := 11) (oi := ?oi11) (v := ?v11) (hi := ?hi11) (hs := ?hs11) (hf := ?hf11) (hr := ?hr11) (hQ := fun _ _ _ h => h) (hy := ?hy11) (hS := hHeld) (h := ?hh11)
      case hi11 => simp only [List.getElem?_toArray, List.getElem?_cons_succ, List.getElem?_cons_zero]; rfl
      case hs11 => kernel_rfl
      case hf11 => kernel_rfl
      case hr11 => kernel_rfl
      case hy11 => refine Or.inl ⟨by rfl, ?_⟩; intro w hSw; (try dsimp only at hSw); go_simp; first | done | with_reducible rfl
      try simp only [Act.put, List.setIfInBounds_toArray, List.set_cons_zero, List.set_cons_succ]
      refine wpAnyH_take (i := 12) (oi := ?oi12) (v := ?v12) (hi := ?hi12) (hs := ?hs12) (hf := ?hf12) (hr := ?hr12) (hQ := fun _ _ _ h => h) (hy := ?hy12) (hS := hHeld) (h := ?hh12)
      case hi12 => simp only [List.getElem?_toArray, List.getElem?_cons_succ, List.getElem?_cons_zero]; rfl
      case hs12 => kernel_rfl
      case hf12 => kernel_rfl
      case hr12 => kernel_rfl
      case hy12 => refine Or.inl ⟨by rfl, ?_⟩; intro w hSw; (try dsimp only at hSw); go_simp; first | done | with_reducible rfl
      try simp only [Act.put, List.setIfInBounds_toArray, List.set_cons_zero, List.set_cons_succ]
      refine wpAnyH_take (i := 13) (oi := ?oi13) (v := ?v13) (hi := ?hi13) (hs := ?hs13) (hf := ?hf13) (hr := ?hr13) (hQ := fun _ _ _ h => h) (hy := ?hy13) (hS := hHeld) (h := ?hh13)
      case hi13 => simp only [List.getElem?_toArray, List.getElem?_cons_succ, List.getElem?_cons_zero]; rfl
      case hs13 => kernel_rfl
      case hf13 => kernel_rfl
      case hr13 => kernel_rfl
      case hy13 => refine yieldsIf_load_mid ?_ 28 (.tmp 5) ?_ (T) 0 ?_ (tallyCells (countAll a) ga) _ ?_ hu rfl (info_cells _ _); rfl; rfl; rfl; exact fun _ h => h.2.1
      try simp only [Act.put, List.setIfInBounds_toArray, List.set_cons_zero, List.set_cons_succ]
      refine wpAnyH_take (i := 14) (oi := ?oi14) (v := ?v14) (hi := ?hi14) (hs := ?hs14) (hf := ?hf14) (hr := ?hr14) (hQ := fun _ _ _ h => h) (hy := ?hy14) (hS := hHeld) (h := ?hh14)
      case hi14 => simp only [List.getElem?_toArray, List.getElem?_cons_succ, List.getElem?_cons_zero]; rfl
      case hs14 => kernel_rfl
      case hf14 => kernel_rfl
      case hr14 => kernel_rfl
      case hy14 => refine yieldsIf_load_mid ?_ 28 (.tmp 5) ?_ (T) 0 ?_ (tallyCells (countAll a) ga) _ ?_ hu rfl (info_cells _ _); rfl; rfl; rfl; exact fun _ h => h.2.1
      try simp only [Act.put, List.setIfInBounds_toArray, List.set_cons_zero, List.set_cons_succ]
      refine wpAnyH_take (i := 15) (oi := ?oi15) (v := ?v15) (hi := ?hi15) (hs := ?hs15) (hf := ?hf15) (hr := ?hr15) (hQ := fun _ _ _ h => h) (hy := ?hy15) (hS := hHeld) (h := ?hh15)
      case hi15 => simp only [List.getElem?_toArray, List.getElem?_cons_succ, List.getElem?_cons_zero]; rfl
      case hs15 => kernel_rfl
      case hf15 => kernel_rfl
      case hr15 => kernel_rfl
      case hy15 => refine Or.inl ⟨by rfl, ?_⟩; intro w hSw; (try dsimp only at hSw); go_simp; first | done | with_reducible rfl
      try simp only [Act.put, List.setIfInBounds_toArray, List.set_cons_zero, List.set_cons_succ]
      refine wpAnyH_ready (rs := [16]) (by kernel_rfl) (by simp) ?_
      refine AllReadyH.cons (o := ?oi16) (ho := ?hi16) (h := ?hh16) (hs := AllReadyH.nil)
      case hi16 => simp only [List.getElem?_toArray, List.getElem?_cons_succ, List.getElem?_cons_zero]; rfl
      intro K hK
      go_simp
      refine (HW0.out _ (HDA.out.ext ((((((Ext.refl _).drewN 1).trans g9).trans g10).trans g11).trans g12))).mono ?_
      rintro e w13 ⟨k13, rfl, hk13, g13⟩
      go_wp2_with fail
      refine hK.out _ _ (keep_three g13 hHeld) (fun hHeld => ?_)
      clear hK K
      try simp only [Act.put, List.setIfInBounds_toArray, List.set_cons_zero, List.set_cons_succ]
      refine wpAnyH_ready (rs := [17]) (by kernel_rfl) (by simp) ?_
      refine AllReadyH.cons (o := ?oi17) (ho := ?hi17) (h := ?hh17) (hs := AllReadyH.nil)
      case hi17 => simp only [List.getElem?_toArray, List.getElem?_cons_succ, List.getElem?_cons_zero]; rfl
      intro K hK
      go_simp
      refine (tally_same _ _ ga k13 _ _ _ (HDA.out.ext (((((((Ext.refl _).drewN 1).trans g9).trans g10).trans g11).trans g12).trans g13)) hk13).mono ?_
      rw [same_none]
      rintro e w14 ⟨rfl, g14⟩
      go_wp2_with fail
      refine hK.out _ _ (keep_three g14 hHeld) (fun hHeld => ?_)
      clear hK K
      try simp only [Act.put, List.setIfInBounds_toArray, List.set_cons_zero, List.set_cons_succ]
      refine wpAnyH_take (i := 18) (oi := ?oi18) (v := ?v18) (hi := ?hi18) (hs := ?hs18) (hf := ?hf18) (hr := ?hr18) (hQ := fun _ _ _ h => h) (hy := ?hy18) (hS := hHeld) (h := ?hh18)
      case hi18 => simp only [List.getElem?_toArray, List.getElem?_cons_succ, List.getElem?_cons_zero]; rfl
      case hs18 => kernel_rfl
      case hf18 => kernel_rfl
      case hr18 => kernel_rfl
      case hy18 => refine Or.inl ⟨by rfl, ?_⟩; intro w hSw; (try dsimp only at hSw); go_simp; first | done | with_reducible rfl
      try simp only [Act.put, List.setIfInBounds_toArray, List.set_cons_zero, List.set_cons_succ]
      refine wpAnyH_take (i := 19) (oi := ?oi19) (v := ?v19) (hi := ?hi19) (hs := ?hs19) (hf := ?hf19) (hr := ?hr19) (hQ := fun _ _ _ h => h) (hy := ?hy19) (hS := hHeld) (h := ?hh19)
      case hi19 => simp only [List.getElem?_toArray, List.getElem?_cons_succ, List.getElem?_cons_zero]; rfl
      case hs19 => kernel_rfl
      case hf19 => kernel_rfl
      case hr19 => kernel_rfl
      case hy19 => refine Or.inl ⟨by rfl, ?_⟩; intro w hSw; (try dsimp only at hSw); go_simp; first | done | with_reducible rfl
      try simp only [Act.put, List.setIfInBounds_toArray, List.set_cons_zero, List.set_cons_succ]
      refine wpAnyH_ready (rs := [20]) (by kernel_rfl) (by simp) ?_
      refine AllReadyH.cons (o := ?oi20) (ho := ?hi20) (h := ?hh20) (hs := AllReadyH.nil)
      case hi20 => simp only [List.getElem?_toArray, List.getElem?_cons_succ, List.getElem?_cons_zero]; rfl
      intro K hK
      go_simp
      refine (tally_awake _).mono ?_
      rintro e w15 ⟨rfl, g15⟩
      go_wp2_with fail
      refine hK.out _ _ (keep_three g15 hHeld) (fun hHeld => ?_)
      clear hK K
      try simp only [Act.put, List.setIfInBounds_toArray, List.set_cons_zero, List.set_cons_succ]
      refine wpAnyH_take (i := 21) (oi := ?oi21) (v := ?v21) (hi := ?hi21) (hs := ?hs21) (hf := ?hf21) (hr := ?hr21) (hQ := fun _ _ _ h => h) (hy := ?hy21) (hS := hHeld) (h := ?hh21)
      case hi21 => simp only [List.getElem?_toArray, List.getElem?_cons_succ, List.getElem?_cons_zero]; rfl
      case hs21 => kernel_rfl
      case hf21 => kernel_rfl
      case hr21 => kernel_rfl
      case hy21 => refine Or.inl ⟨by rfl, ?_⟩; intro w hSw; (try dsimp only at hSw); go_simp; first | done | with_reducible rfl
      try simp only [Act.put, List.setIfInBounds_toArray, List.set_cons_zero, List.set_cons_succ]
      refine wpAnyH_take (i := 22) (oi := ?oi22) (v := ?v22) (hi := ?hi22) (hs := ?hs22) (hf := ?hf22) (hr := ?hr22) (hQ := fun _ _ _ h => h) (hy := ?hy22) (hS := hHeld) (h := ?hh22)
      case hi22 => simp only [List.getElem?_toArray, List.getElem?_cons_succ, List.getElem?_cons_zero]; rfl
      case hs22 => kernel_rfl
      case hf22 => kernel_rfl
      case hr22 => kernel_rfl
      case hy22 => refine Or.inl ⟨by rfl, ?_⟩; intro w hSw; (try dsimp only at hSw); go_simp; first | done | with_reducible rfl
      try simp only [Act.put, List.setIfInBounds_toArray, List.set_cons_zero, List.set_cons_succ]
      refine wpAnyH_done (by kernel_rfl) ?_ _
      refine NoPanic.normal ?_
      go_wp2
      go_ret
      exact ⟨rfl, HX8.out.trans ((((((((Ext.refl _).drewN 1).trans g9).trans g10).trans g11).trans g12).trans g13).trans (g14.trans g15))⟩

end Go.Proofs.Ytmdeepdediafbaa
