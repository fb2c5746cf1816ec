/- TallyCounts answers true. -/
import Derived.Test.YtmdeepdediafbaaTallyAwake
import Derived.BigQuiet
import Derived.Deep.RegionHeld3
namespace Go.Proofs.Ytmdeepdediafbaa
open Go.RowKit
attribute [local go_sem] Oper.semAt_some

/-- A tally's cells in a new block. -/
structure TallyIn (w : World) (T : Nat) (x : Nat → Int) (g : Value) (G : List Dot) : Prop where
  rng : w.rangeAt T 0 (tallyCells x g)
  dots : DotsV w g G
theorem TallyIn.ext {w w' : World} {T : Nat} {x : Nat → Int} {g : Value} {G : List Dot} (h : TallyIn w T x g G) (he : Ext w w') : TallyIn w' T x g G :=
  ⟨fun j v hv => he.cell (h.rng j v hv), h.dots.ext he⟩
theorem TallyIn.num {w : World} {T : Nat} {x : Nat → Int} {g : Value} {G : List Dot} (h : TallyIn w T x g G) (i : Nat) (hi : i < 44) : w.cell? ⟨T, i, none⟩ = some (.int .i64 (x i)) := by
  have := h.rng i _ (tallyCells_num x g i hi); rw [Nat.zero_add] at this; exact this
theorem TallyIn.giv {w : World} {T : Nat} {x : Nat → Int} {g : Value} {G : List Dot} (h : TallyIn w T x g G) : w.cell? ⟨T, 44, none⟩ = some g := by
  have := h.rng 44 _ (tallyCells_giv x g); rw [Nat.zero_add] at this; exact this

theorem info_cells (x : Nat → Int) (g : Value) : (Try.prog.info? 28).map (·.size) = some (tallyCells x g).length := by rw [tallyCells_length]; exact info_tally
theorem info_cellsA (x : Nat → Int) (g : Value) : (Try.prog.info? 28).map (·.size) = some (tallyCells x g).toArray.size := by rw [List.size_toArray]; exact info_cells x g
theorem there_cells (w : World) (C : Array Value) (hC : C.size = 45) (t : TypeId) (x : Nat → Int) (g : Value) : (w.alloc (.cells C t)).there w.heap.size 0 (tallyCells x g).toArray.size := by
  have h45 : (tallyCells x g).toArray.size = 45 := by simp [tallyCells_length]
  rw [h45, ← hC]; exact there_new _ _ _
theorem laid_cells {w : World} {g : Value} {G : List Dot} (hd : DotsV w g G) (x : Nat → Int) (C : Array Value) (hC : C.size = 45) (t : TypeId) :
    TallyIn ((w.alloc (.cells C t)).setCells w.heap.size 0 (tallyCells x g)) w.heap.size x g G ∧ Ext w ((w.alloc (.cells C t)).setCells w.heap.size 0 (tallyCells x g)) := by
  have hE : Ext w ((w.alloc (.cells C t)).setCells w.heap.size 0 (tallyCells x g)) := Ext.setCells _ (Nat.le_refl _) _ _ _ ((Ext.refl _).alloc _)
  exact ⟨⟨World.rangeAt_setCells_same _ _ _ _ (there_cells w C hC t x g), hd.ext hE⟩, hE⟩

theorem keep_tally {w w' : World} {T : Nat} {X : List Value} {u v : Value} (he : Ext w w') (h : w.rangeAt T 0 X ∧ w.cell? ⟨T, 0, none⟩ = some u ∧ w.cell? ⟨T, 44, none⟩ = some v) : w'.rangeAt T 0 X ∧ w'.cell? ⟨T, 0, none⟩ = some u ∧ w'.cell? ⟨T, 44, none⟩ = some v :=
  ⟨fun j v hv => he.cell (h.1 j v hv), he.cell h.2.1, he.cell h.2.2⟩

set_option maxRecDepth 100000 in
set_option maxHeartbeats 4000000 in
theorem tallyCounts_walk (p : Option Addr) (n c : Nat) (l : List Ev) (w : World) (hE : Events w p n l) :
    Calls Try.prog 3 #[.slice p n c] w fun e w' => e = .returned (.bool true) ∧ Ext w w' := by
  have hnm := hE.2.1
  by_cases hn : 300 < n
  · have d0 : decide ((n : Int) > 300) = true := decide_eq_true (by omega)
    go_enter Try.func3, Try.ntmps3
    go_wp2_with fail
    refine (tally_awake _).mono ?_
    rintro e w2 ⟨rfl, g2⟩
    go_wp2
    go_ret
    exact ⟨rfl, g2⟩
  · have d0 : decide ((n : Int) > 300) = false := decide_eq_false (by omega)
    have HE := Lib.hid hE
    clear hE
    go_enter Try.func3, Try.ntmps3
    go_wp2_with fail
    refine (tally_of p n c l _ (by omega) HE.out).mono ?_
    rintro e w2 ⟨g, rfl, hd, g2⟩
    have hone := all_oneCell_toArray (tallyCells_one (x := countAll l) hd)
    go_upto_region 4 with (first | ((with_reducible refine store_mid_at 28 3 12 w2.heap.size 0 (tallyCells (countAll l) g).toArray ?_ ?_ (there_cells _ _ rfl _ _ _) (info_cellsA _ _) hone ?_); rfl; rfl; skip))
    generalize hL : ([.int .i64 0, .int .i64 0, .int .i64 0, .int .i64 0, .int .i64 0, .int .i64 0, .int .i64 0, .int .i64 0, .int .i64 0, .int .i64 0, .int .i64 0, .int .i64 0, .int .i64 0, .int .i64 0, .int .i64 0, .int .i64 0, .int .i64 0, .int .i64 0, .int .i64 0, .int .i64 0, .int .i64 0, .int .i64 0, .int .i64 0, .int .i64 0, .int .i64 0, .int .i64 0, .int .i64 0, .int .i64 0, .int .i64 0, .int .i64 0, .int .i64 0, .int .i64 0, .int .i64 0, .int .i64 0, .int .i64 0, .int .i64 0, .int .i64 0, .int .i64 0, .int .i64 0, .int .i64 0, .int .i64 0, .int .i64 0, .int .i64 0, .int .i64 0, .slice none 0 0] : List Value) = L
    have hLs : L.toArray.size = 45 := by rw [← hL]; rfl
    obtain ⟨hT, hx⟩ := laid_cells hd (countAll l) L.toArray hLs 28
    clear hL hLs hd hone
    have hx1 := g2.trans hx
    generalize (w2.alloc (.cells L.toArray 28)).setCells w2.heap.size 0 (tallyCells (countAll l) g) = w3 at *
    generalize w2.heap.size = T at *
    generalize Value.agg (tallyCells (countAll l) g).toArray = TV at *
    clear hx g2
    have HT := Lib.hid hT
    have HX := Lib.hid hx1
    clear hT hx1
    go_wp2
    go_loopw [4] (fun i wr => ∃ (k : Nat), k ≤ 13 ∧ i = .int .i64 k ∧ Ext w3 wr) (fun i _ => 13 - (intOf i).toNat)
    case atStart => exact ⟨0, by omega, rfl, Ext.refl _⟩
    case round =>
      obtain ⟨k, hk, rfl, he⟩ := hrel
      by_cases hlt : k < 13
      · have hT := HT.out.ext he
        have n1 := hT.num (1 + k) (by omega)
        have n2 := hT.num (14 + k) (by omega)
        rw [count_kind l k hlt] at n1
        rw [count_well l k hlt] at n2
        have HEV := Lib.hid (HE.out.ext (HX.out.trans he))
        have hk0 : (0 : Int) ≤ (k : Int) := by omega
        have hk1 : (k : Int) < 13 := by omega
        clear hT
        go_wp2
        go_quiet ((go_at_call 9; exact Calls.quiet_of_same ((ref_count p n c l _ _ _ (by omega) (HEV.out.ext ((Ext.refl _).drewN _))).mono fun _ _ h => ⟨h.1, h.2.symm⟩)))
        go_wp2
        go_roundw
        case rel => exact ⟨k + 1, by omega, by go_num, he.drewN _⟩
        case measure => simp [intOf]; omega
      · obtain rfl : k = 13 := by omega
        have e13 : ((13 : Nat) : Int) = 13 := rfl
        rw [e13]
        go_wp2
        go_loopw [5] (fun i wx => ∃ (k : Nat), k ≤ 17 ∧ i = .int .i64 k ∧ Ext w3 wx) (fun i _ => 17 - (intOf i).toNat)
        case atStart => exact ⟨0, by omega, rfl, he⟩
        case round =>
          obtain ⟨j, hj, rfl, he⟩ := hrel
          by_cases hlt : j < 17
          · have hT := HT.out.ext he
            have n1 := hT.num (27 + j) (by omega)
            rw [count_err l j hlt] at n1
            have HEV := Lib.hid (HE.out.ext (HX.out.trans he))
            have hk0 : (0 : Int) ≤ (j : Int) := by omega
            have hk1 : (j : Int) < 17 := by omega
            clear hT
            go_wp2
            go_quiet ((go_at_call 9; exact Calls.quiet_of_same ((ref_count p n c l _ _ _ (by omega) (HEV.out.ext ((Ext.refl _).drewN _))).mono fun _ _ h => ⟨h.1, h.2.symm⟩)))
            go_wp2
            go_roundw
            case rel => exact ⟨j + 1, by omega, by go_num, he.drewN _⟩
            case measure => simp [intOf]; omega
          · obtain rfl : j = 17 := by omega
            have e17 : ((17 : Nat) : Int) = 17 := rfl
            rw [e17]
            have HEr := Lib.hid he
            by_cases h0 : 0 < n
            · have d1 : decide ((n : Int) > 0) = true := decide_eq_true (by omega)
              have hcl := cntOf_le (-1) 0 l
              rw [HE.out.1] at hcl
              go_wp2_with fail
              refine (ref_count p n c l (-1) 0 _ (by omega) (HE.out.ext (HX.out.trans HEr.out))).mono ?_
              rintro e w4 ⟨rfl, rfl⟩
              go_wp2
              have HTr := HT.out.ext HEr.out
              have HD := Lib.hid HTr.dots
              have t0 := HTr.num 0 (by omega)
              have t44 := HTr.giv
              have tr := HTr.rng
              rw [count_all, HE.out.1] at t0
              have hi := info_cells (countAll l) g
              have h1 := tallyCells_one (x := countAll l) HTr.dots
              have hl45 := tallyCells_length (countAll l) g
              have hu := Try.underlying28
              have HEV := Lib.hid (HE.out.ext (HX.out.trans HEr.out))
              have hsh : ∀ wx, Calls Try.prog 12 #[.agg (tallyCells (countAll l) g).toArray] wx fun e w' => e = .returned (.int .i64 (100 * (cntOf (-1) 0 l : Nat) / (n : Int))) ∧ Ext wx w' := fun wx => by
                have hce := count_err l 0 (by omega)
                rw [show 27 + 0 = 27 from rfl] at hce
                have hle := cntOf_le (-1) 0 l
                rw [HE.out.1] at hle
                have := tally_share (countAll l) g wx (by rw [count_all, HE.out.1]; omega) (by rw [hce]; simp only [Int.ofNat_zero]; omega)
                rw [count_all, hce, HE.out.1] at this
                unfold shareOf at this
                rw [if_neg (by omega), Int.mul_comm] at this
                exact this
              have HSH := Lib.hid hsh
              have HXr := Lib.hid (HX.out.trans HEr.out)
              clear HT HX HEr HTr hsh HE he
              generalize tallyCells (countAll l) g = X at *
              have hS0 : wr.drew.rangeAt T 0 X ∧ wr.drew.cell? ⟨T, 0, none⟩ = some (.int .i64 (n : Int)) ∧ wr.drew.cell? ⟨T, 44, none⟩ = some g := ⟨tr, t0, t44⟩
              refine wp_region_noPanic ?_
              refine wp_region_held_drew (S := fun w' => w'.rangeAt T 0 X ∧ w'.cell? ⟨T, 0, none⟩ = some (.int .i64 (n : Int)) ∧ w'.cell? ⟨T, 44, none⟩ = some g) (by kernel_rfl) hS0 (fun hHeld => ?_)
              refine wpAnyH_take (i := 0) (oi := ?oi0) (v := ?v0) (hi := ?hi0) (hs := ?hs0) (hf := ?hf0) (hr := ?hr0) (hQ := fun _ _ _ h => h) (hy := ?hy0) (hS := hHeld) (h := ?hh0)
              case hi0 => simp only [List.getElem?_toArray, List.getElem?_cons_succ, List.getElem?_cons_zero]; rfl
              case hs0 => kernel_rfl
              case hf0 => kernel_rfl
              case hr0 => kernel_rfl
              case hy0 => refine Or.inl ⟨by rfl, ?_⟩; intro w hSw; (try dsimp only at hSw); go_simp; first | done | with_reducible rfl
              try simp only [Act.put, List.setIfInBounds_toArray, List.set_cons_zero, List.set_cons_succ]
              refine wpAnyH_take (i := 1) (oi := ?oi1) (v := ?v1) (hi := ?hi1) (hs := ?hs1) (hf := ?hf1) (hr := ?hr1) (hQ := fun _ _ _ h => h) (hy := ?hy1) (hS := hHeld) (h := ?hh1)
              case hi1 => simp only [List.getElem?_toArray, List.getElem?_cons_succ, List.getElem?_cons_zero]; rfl
              case hs1 => kernel_rfl
              case hf1 => kernel_rfl
              case hr1 => kernel_rfl
              case hy1 => refine Or.inl ⟨by rfl, ?_⟩; intro w hSw; (try dsimp only at hSw); go_simp; first | done | with_reducible rfl
              try simp only [Act.put, List.setIfInBounds_toArray, List.set_cons_zero, List.set_cons_succ]
              refine wpAnyH_take (i := 2) (oi := ?oi2) (v := ?v2) (hi := ?hi2) (hs := ?hs2) (hf := ?hf2) (hr := ?hr2) (hQ := fun _ _ _ h => h) (hy := ?hy2) (hS := hHeld) (h := ?hh2)
              case hi2 => simp only [List.getElem?_toArray, List.getElem?_cons_succ, List.getElem?_cons_zero]; rfl
              case hs2 => kernel_rfl
              case hf2 => kernel_rfl
              case hr2 => kernel_rfl
              case hy2 => refine Or.inl ⟨by rfl, ?_⟩; intro w hSw; (try dsimp only at hSw); go_simp; first | done | with_reducible rfl
              try simp only [Act.put, List.setIfInBounds_toArray, List.set_cons_zero, List.set_cons_succ]
              refine wpAnyH_take (i := 3) (oi := ?oi3) (v := ?v3) (hi := ?hi3) (hs := ?hs3) (hf := ?hf3) (hr := ?hr3) (hQ := fun _ _ _ h => h) (hy := ?hy3) (hS := hHeld) (h := ?hh3)
              case hi3 => simp only [List.getElem?_toArray, List.getElem?_cons_succ, List.getElem?_cons_zero]; rfl
              case hs3 => kernel_rfl
              case hf3 => kernel_rfl
              case hr3 => kernel_rfl
              case hy3 => refine Or.inl ⟨by rfl, ?_⟩; intro w hSw; (try dsimp only at hSw); go_simp; first | done | with_reducible rfl
              try simp only [Act.put, List.setIfInBounds_toArray, List.set_cons_zero, List.set_cons_succ]
              refine wpAnyH_take (i := 4) (oi := ?oi4) (v := ?v4) (hi := ?hi4) (hs := ?hs4) (hf := ?hf4) (hr := ?hr4) (hQ := fun _ _ _ h => h) (hy := ?hy4) (hS := hHeld) (h := ?hh4)
              case hi4 => simp only [List.getElem?_toArray, List.getElem?_cons_succ, List.getElem?_cons_zero]; rfl
              case hs4 => kernel_rfl
              case hf4 => kernel_rfl
              case hr4 => kernel_rfl
              case hy4 => refine Or.inl ⟨by rfl, ?_⟩; intro w hSw; (try dsimp only at hSw); go_simp; first | done | with_reducible rfl
              try simp only [Act.put, List.setIfInBounds_toArray, List.set_cons_zero, List.set_cons_succ]
              refine wpAnyH_take (i := 5) (oi := ?oi5) (v := ?v5) (hi := ?hi5) (hs := ?hs5) (hf := ?hf5) (hr := ?hr5) (hQ := fun _ _ _ h => h) (hy := ?hy5) (hS := hHeld) (h := ?hh5)
              case hi5 => simp only [List.getElem?_toArray, List.getElem?_cons_succ, List.getElem?_cons_zero]; rfl
              case hs5 => kernel_rfl
              case hf5 => kernel_rfl
              case hr5 => kernel_rfl
              case hy5 => refine Or.inl ⟨by rfl, ?_⟩; intro w hSw; (try dsimp only at hSw); go_simp; first | done | with_reducible rfl
              try simp only [Act.put, List.setIfInBounds_toArray, List.set_cons_zero, List.set_cons_succ]
              refine wpAnyH_take (i := 6) (oi := ?oi6) (v := ?v6) (hi := ?hi6) (hs := ?hs6) (hf := ?hf6) (hr := ?hr6) (hQ := fun _ _ _ h => h) (hy := ?hy6) (hS := hHeld) (h := ?hh6)
              case hi6 => simp only [List.getElem?_toArray, List.getElem?_cons_succ, List.getElem?_cons_zero]; rfl
              case hs6 => kernel_rfl
              case hf6 => kernel_rfl
              case hr6 => kernel_rfl
              case hy6 => refine Or.inl ⟨by rfl, ?_⟩; intro w hSw; (try dsimp only at hSw); go_simp; first | done | with_reducible rfl
              try simp only [Act.put, List.setIfInBounds_toArray, List.set_cons_zero, List.set_cons_succ]
              refine wpAnyH_take (i := 7) (oi := ?oi7) (v := ?v7) (hi := ?hi7) (hs := ?hs7) (hf := ?hf7) (hr := ?hr7) (hQ := fun _ _ _ h => h) (hy := ?hy7) (hS := hHeld) (h := ?hh7)
              case hi7 => simp only [List.getElem?_toArray, List.getElem?_cons_succ, List.getElem?_cons_zero]; rfl
              case hs7 => kernel_rfl
              case hf7 => kernel_rfl
              case hr7 => kernel_rfl
              case hy7 => refine Or.inl ⟨by rfl, ?_⟩; intro w hSw; (try dsimp only at hSw); go_simp; first | done | with_reducible rfl
              try simp only [Act.put, List.setIfInBounds_toArray, List.set_cons_zero, List.set_cons_succ]
              refine wpAnyH_take (i := 8) (oi := ?oi8) (v := ?v8) (hi := ?hi8) (hs := ?hs8) (hf := ?hf8) (hr := ?hr8) (hQ := fun _ _ _ h => h) (hy := ?hy8) (hS := hHeld) (h := ?hh8)
              case hi8 => simp only [List.getElem?_toArray, List.getElem?_cons_succ, List.getElem?_cons_zero]; rfl
              case hs8 => kernel_rfl
              case hf8 => kernel_rfl
              case hr8 => kernel_rfl
              case hy8 => refine Or.inl ⟨by rfl, ?_⟩; intro w hSw; (try dsimp only at hSw); go_simp; first | done | with_reducible rfl
              try simp only [Act.put, List.setIfInBounds_toArray, List.set_cons_zero, List.set_cons_succ]
              refine wpAnyH_ready (rs := [9]) (by kernel_rfl) (by simp) ?_
              refine AllReadyH.cons (o := ?oi9) (ho := ?hi9) (h := ?hh9) (hs := AllReadyH.nil)
              case hi9 => simp only [List.getElem?_toArray, List.getElem?_cons_succ, List.getElem?_cons_zero]; rfl
              intro K hK
              go_simp
              refine (ref_given p n c l _ (by omega) (HEV.out.ext ((Ext.refl _).drewN 1))).mono ?_
              rintro e w5 ⟨v5, rfl, hv5, g5⟩
              go_wp2_with fail
              refine hK.out _ _ (keep_tally g5 hHeld) (fun hHeld => ?_)
              clear hK K
              try simp only [Act.put, List.setIfInBounds_toArray, List.set_cons_zero, List.set_cons_succ]
              refine wpAnyH_ready (rs := [10]) (by kernel_rfl) (by simp) ?_
              refine AllReadyH.cons (o := ?oi10) (ho := ?hi10) (h := ?hh10) (hs := AllReadyH.nil)
              case hi10 => simp only [List.getElem?_toArray, List.getElem?_cons_succ, List.getElem?_cons_zero]; rfl
              intro K hK
              go_simp
              refine (ref_same g v5 _ _ _ (HD.out.ext (((Ext.refl _).drewN 1).trans g5)) hv5).mono ?_
              rw [decide_eq_true rfl]
              rintro e w6 ⟨rfl, g6⟩
              go_wp2_with fail
              refine hK.out _ _ (keep_tally g6 hHeld) (fun hHeld => ?_)
              clear hK K
              try simp only [Act.put, List.setIfInBounds_toArray, List.set_cons_zero, List.set_cons_succ]
              refine wpAnyH_take (i := 11) (oi := ?oi11) (v := ?v11) (hi := ?hi11) (hs := ?hs11) (hf := ?hf11) (hr := ?hr11) (hQ := fun _ _ _ h => h) (hy := ?hy11) (hS := hHeld) (h := ?hh11)
              case hi11 => simp only [List.getElem?_toArray, List.getElem?_cons_succ, List.getElem?_cons_zero]; rfl
              case hs11 => kernel_rfl
              case hf11 => kernel_rfl
              case hr11 => kernel_rfl
              case hy11 => refine Or.inl ⟨by rfl, ?_⟩; intro w hSw; (try dsimp only at hSw); go_simp; first | done | with_reducible rfl
              try simp only [Act.put, List.setIfInBounds_toArray, List.set_cons_zero, List.set_cons_succ]
              refine wpAnyH_take (i := 12) (oi := ?oi12) (v := ?v12) (hi := ?hi12) (hs := ?hs12) (hf := ?hf12) (hr := ?hr12) (hQ := fun _ _ _ h => h) (hy := ?hy12) (hS := hHeld) (h := ?hh12)
              case hi12 => simp only [List.getElem?_toArray, List.getElem?_cons_succ, List.getElem?_cons_zero]; rfl
              case hs12 => kernel_rfl
              case hf12 => kernel_rfl
              case hr12 => kernel_rfl
              case hy12 => refine Or.inl ⟨by rfl, ?_⟩; intro w hSw; (try dsimp only at hSw); go_simp; first | done | with_reducible rfl
              try simp only [Act.put, List.setIfInBounds_toArray, List.set_cons_zero, List.set_cons_succ]
              refine wpAnyH_take (i := 13) (oi := ?oi13) (v := ?v13) (hi := ?hi13) (hs := ?hs13) (hf := ?hf13) (hr := ?hr13) (hQ := fun _ _ _ h => h) (hy := ?hy13) (hS := hHeld) (h := ?hh13)
              case hi13 => simp only [List.getElem?_toArray, List.getElem?_cons_succ, List.getElem?_cons_zero]; rfl
              case hs13 => kernel_rfl
              case hf13 => kernel_rfl
              case hr13 => kernel_rfl
              case hy13 => refine yieldsIf_load_mid ?_ 28 (.tmp 3) ?_ T 0 ?_ X _ ?_ hu rfl hi; rfl; rfl; rfl; exact fun _ h => h.1
              try simp only [Act.put, List.setIfInBounds_toArray, List.set_cons_zero, List.set_cons_succ]
              refine wpAnyH_take (i := 15) (oi := ?oi15) (v := ?v15) (hi := ?hi15) (hs := ?hs15) (hf := ?hf15) (hr := ?hr15) (hQ := fun _ _ _ h => h) (hy := ?hy15) (hS := hHeld) (h := ?hh15)
              case hi15 => simp only [List.getElem?_toArray, List.getElem?_cons_succ, List.getElem?_cons_zero]; rfl
              case hs15 => kernel_rfl
              case hf15 => kernel_rfl
              case hr15 => kernel_rfl
              case hy15 => refine Or.inl ⟨by rfl, ?_⟩; intro w hSw; (try dsimp only at hSw); go_simp; first | done | with_reducible rfl
              try simp only [Act.put, List.setIfInBounds_toArray, List.set_cons_zero, List.set_cons_succ]
              refine wpAnyH_ready (rs := [14]) (by kernel_rfl) (by simp) ?_
              refine AllReadyH.cons (o := ?oi14) (ho := ?hi14) (h := ?hh14) (hs := AllReadyH.nil)
              case hi14 => simp only [List.getElem?_toArray, List.getElem?_cons_succ, List.getElem?_cons_zero]; rfl
              intro K hK
              go_simp
              refine (HSH.out _).mono ?_
              rintro e w7 ⟨rfl, g7⟩
              go_wp2_with fail
              refine hK.out _ _ (keep_tally g7 hHeld) (fun hHeld => ?_)
              clear hK K
              try simp only [Act.put, List.setIfInBounds_toArray, List.set_cons_zero, List.set_cons_succ]
              refine wpAnyH_take (i := 16) (oi := ?oi16) (v := ?v16) (hi := ?hi16) (hs := ?hs16) (hf := ?hf16) (hr := ?hr16) (hQ := fun _ _ _ h => h) (hy := ?hy16) (hS := hHeld) (h := ?hh16)
              case hi16 => simp only [List.getElem?_toArray, List.getElem?_cons_succ, List.getElem?_cons_zero]; rfl
              case hs16 => kernel_rfl
              case hf16 => kernel_rfl
              case hr16 => kernel_rfl
              case hy16 => refine Or.inl ⟨by rfl, ?_⟩; intro w hSw; (try dsimp only at hSw); go_simp; first | done | with_reducible rfl
              try simp only [Act.put, List.setIfInBounds_toArray, List.set_cons_zero, List.set_cons_succ]
              refine wpAnyH_take (i := 17) (oi := ?oi17) (v := ?v17) (hi := ?hi17) (hs := ?hs17) (hf := ?hf17) (hr := ?hr17) (hQ := fun _ _ _ h => h) (hy := ?hy17) (hS := hHeld) (h := ?hh17)
              case hi17 => simp only [List.getElem?_toArray, List.getElem?_cons_succ, List.getElem?_cons_zero]; rfl
              case hs17 => kernel_rfl
              case hf17 => kernel_rfl
              case hr17 => kernel_rfl
              case hy17 => refine Or.inl ⟨by rfl, ?_⟩; intro w hSw; (try dsimp only at hSw); go_simp; first | done | with_reducible rfl
              try simp only [Act.put, List.setIfInBounds_toArray, List.set_cons_zero, List.set_cons_succ]
              refine wpAnyH_take (i := 18) (oi := ?oi18) (v := ?v18) (hi := ?hi18) (hs := ?hs18) (hf := ?hf18) (hr := ?hr18) (hQ := fun _ _ _ h => h) (hy := ?hy18) (hS := hHeld) (h := ?hh18)
              case hi18 => simp only [List.getElem?_toArray, List.getElem?_cons_succ, List.getElem?_cons_zero]; rfl
              case hs18 => kernel_rfl
              case hf18 => kernel_rfl
              case hr18 => kernel_rfl
              case hy18 => refine Or.inl ⟨by rfl, ?_⟩; intro w hSw; (try dsimp only at hSw); go_simp; first | done | with_reducible rfl
              try simp only [Act.put, List.setIfInBounds_toArray, List.set_cons_zero, List.set_cons_succ]
              refine wpAnyH_ready (rs := [19]) (by kernel_rfl) (by simp) ?_
              refine AllReadyH.cons (o := ?oi19) (ho := ?hi19) (h := ?hh19) (hs := AllReadyH.nil)
              case hi19 => simp only [List.getElem?_toArray, List.getElem?_cons_succ, List.getElem?_cons_zero]; rfl
              intro K hK
              go_simp
              refine (tally_awake _).mono ?_
              rintro e w8 ⟨rfl, g8⟩
              go_wp2_with fail
              refine hK.out _ _ (keep_tally g8 hHeld) (fun hHeld => ?_)
              clear hK K
              try simp only [Act.put, List.setIfInBounds_toArray, List.set_cons_zero, List.set_cons_succ]
              refine wpAnyH_take (i := 20) (oi := ?oi20) (v := ?v20) (hi := ?hi20) (hs := ?hs20) (hf := ?hf20) (hr := ?hr20) (hQ := fun _ _ _ h => h) (hy := ?hy20) (hS := hHeld) (h := ?hh20)
              case hi20 => simp only [List.getElem?_toArray, List.getElem?_cons_succ, List.getElem?_cons_zero]; rfl
              case hs20 => kernel_rfl
              case hf20 => kernel_rfl
              case hr20 => kernel_rfl
              case hy20 => refine Or.inl ⟨by rfl, ?_⟩; intro w hSw; (try dsimp only at hSw); go_simp; first | done | with_reducible rfl
              try simp only [Act.put, List.setIfInBounds_toArray, List.set_cons_zero, List.set_cons_succ]
              refine wpAnyH_take (i := 21) (oi := ?oi21) (v := ?v21) (hi := ?hi21) (hs := ?hs21) (hf := ?hf21) (hr := ?hr21) (hQ := fun _ _ _ h => h) (hy := ?hy21) (hS := hHeld) (h := ?hh21)
              case hi21 => simp only [List.getElem?_toArray, List.getElem?_cons_succ, List.getElem?_cons_zero]; rfl
              case hs21 => kernel_rfl
              case hf21 => kernel_rfl
              case hr21 => kernel_rfl
              case hy21 => refine Or.inl ⟨by rfl, ?_⟩; intro w hSw; (try dsimp only at hSw); go_simp; first | done | with_reducible rfl
              try simp only [Act.put, List.setIfInBounds_toArray, List.set_cons_zero, List.set_cons_succ]
              refine wpAnyH_done (by kernel_rfl) ?_ _
              refine NoPanic.normal ?_
              go_wp2
              go_ret
              exact ⟨rfl, HXr.out.trans ((((Ext.refl wr).drewN 1).trans g5).trans (g6.trans (g7.trans g8)))⟩
            · have d1 : decide ((n : Int) > 0) = false := decide_eq_false (by omega)
              go_wp2
              have HTr := HT.out.ext HEr.out
              have HD := Lib.hid HTr.dots
              have t0 := HTr.num 0 (by omega)
              have t44 := HTr.giv
              have tr := HTr.rng
              rw [count_all, HE.out.1] at t0
              have hi := info_cells (countAll l) g
              have h1 := tallyCells_one (x := countAll l) HTr.dots
              have hl45 := tallyCells_length (countAll l) g
              have hu := Try.underlying28
              have HEV := Lib.hid (HE.out.ext (HX.out.trans HEr.out))
              have hsh : ∀ wx, Calls Try.prog 12 #[.agg (tallyCells (countAll l) g).toArray] wx fun e w' => e = .returned (.int .i64 (100)) ∧ Ext wx w' := fun wx => by
                have hce := count_err l 0 (by omega)
                rw [show 27 + 0 = 27 from rfl] at hce
                have hle := cntOf_le (-1) 0 l
                rw [HE.out.1] at hle
                have := tally_share (countAll l) g wx (by rw [count_all, HE.out.1]; omega) (by rw [hce]; simp only [Int.ofNat_zero]; omega)
                rw [count_all, hce, HE.out.1] at this
                unfold shareOf at this
                rw [if_pos (by omega)] at this
                exact this
              have HSH := Lib.hid hsh
              have HXr := Lib.hid (HX.out.trans HEr.out)
              clear HT HX HEr HTr hsh HE he
              generalize tallyCells (countAll l) g = X at *
              have hS0 : wr.drew.rangeAt T 0 X ∧ wr.drew.cell? ⟨T, 0, none⟩ = some (.int .i64 (n : Int)) ∧ wr.drew.cell? ⟨T, 44, none⟩ = some g := ⟨tr, t0, t44⟩
              refine wp_region_noPanic ?_
              refine wp_region_held_drew (S := fun w' => w'.rangeAt T 0 X ∧ w'.cell? ⟨T, 0, none⟩ = some (.int .i64 (n : Int)) ∧ w'.cell? ⟨T, 44, none⟩ = some g) (by kernel_rfl) hS0 (fun hHeld => ?_)
              refine wpAnyH_take (i := 0) (oi := ?oiz0) (v := ?vz0) (hi := ?hiz0) (hs := ?hsz0) (hf := ?hfz0) (hr := ?hrz0) (hQ := fun _ _ _ h => h) (hy := ?hyz0) (hS := hHeld) (h := ?hhz0)
              case hiz0 => simp only [List.getElem?_toArray, List.getElem?_cons_succ, List.getElem?_cons_zero]; rfl
              case hsz0 => kernel_rfl
              case hfz0 => kernel_rfl
              case hrz0 => kernel_rfl
              case hyz0 => refine Or.inl ⟨by rfl, ?_⟩; intro w hSw; (try dsimp only at hSw); go_simp; first | done | with_reducible rfl
              try simp only [Act.put, List.setIfInBounds_toArray, List.set_cons_zero, List.set_cons_succ]
              refine wpAnyH_take (i := 1) (oi := ?oiz1) (v := ?vz1) (hi := ?hiz1) (hs := ?hsz1) (hf := ?hfz1) (hr := ?hrz1) (hQ := fun _ _ _ h => h) (hy := ?hyz1) (hS := hHeld) (h := ?hhz1)
              case hiz1 => simp only [List.getElem?_toArray, List.getElem?_cons_succ, List.getElem?_cons_zero]; rfl
              case hsz1 => kernel_rfl
              case hfz1 => kernel_rfl
              case hrz1 => kernel_rfl
              case hyz1 => refine Or.inl ⟨by rfl, ?_⟩; intro w hSw; (try dsimp only at hSw); go_simp; first | done | with_reducible rfl
              try simp only [Act.put, List.setIfInBounds_toArray, List.set_cons_zero, List.set_cons_succ]
              refine wpAnyH_take (i := 2) (oi := ?oiz2) (v := ?vz2) (hi := ?hiz2) (hs := ?hsz2) (hf := ?hfz2) (hr := ?hrz2) (hQ := fun _ _ _ h => h) (hy := ?hyz2) (hS := hHeld) (h := ?hhz2)
              case hiz2 => simp only [List.getElem?_toArray, List.getElem?_cons_succ, List.getElem?_cons_zero]; rfl
              case hsz2 => kernel_rfl
              case hfz2 => kernel_rfl
              case hrz2 => kernel_rfl
              case hyz2 => refine Or.inl ⟨by rfl, ?_⟩; intro w hSw; (try dsimp only at hSw); go_simp; first | done | with_reducible rfl
              try simp only [Act.put, List.setIfInBounds_toArray, List.set_cons_zero, List.set_cons_succ]
              refine wpAnyH_take (i := 3) (oi := ?oiz3) (v := ?vz3) (hi := ?hiz3) (hs := ?hsz3) (hf := ?hfz3) (hr := ?hrz3) (hQ := fun _ _ _ h => h) (hy := ?hyz3) (hS := hHeld) (h := ?hhz3)
              case hiz3 => simp only [List.getElem?_toArray, List.getElem?_cons_succ, List.getElem?_cons_zero]; rfl
              case hsz3 => kernel_rfl
              case hfz3 => kernel_rfl
              case hrz3 => kernel_rfl
              case hyz3 => refine Or.inl ⟨by rfl, ?_⟩; intro w hSw; (try dsimp only at hSw); go_simp; first | done | with_reducible rfl
              try simp only [Act.put, List.setIfInBounds_toArray, List.set_cons_zero, List.set_cons_succ]
              refine wpAnyH_take (i := 4) (oi := ?oiz4) (v := ?vz4) (hi := ?hiz4) (hs := ?hsz4) (hf := ?hfz4) (hr := ?hrz4) (hQ := fun _ _ _ h => h) (hy := ?hyz4) (hS := hHeld) (h := ?hhz4)
              case hiz4 => simp only [List.getElem?_toArray, List.getElem?_cons_succ, List.getElem?_cons_zero]; rfl
              case hsz4 => kernel_rfl
              case hfz4 => kernel_rfl
              case hrz4 => kernel_rfl
              case hyz4 => refine Or.inl ⟨by rfl, ?_⟩; intro w hSw; (try dsimp only at hSw); go_simp; first | done | with_reducible rfl
              try simp only [Act.put, List.setIfInBounds_toArray, List.set_cons_zero, List.set_cons_succ]
              refine wpAnyH_take (i := 5) (oi := ?oiz5) (v := ?vz5) (hi := ?hiz5) (hs := ?hsz5) (hf := ?hfz5) (hr := ?hrz5) (hQ := fun _ _ _ h => h) (hy := ?hyz5) (hS := hHeld) (h := ?hhz5)
              case hiz5 => simp only [List.getElem?_toArray, List.getElem?_cons_succ, List.getElem?_cons_zero]; rfl
              case hsz5 => kernel_rfl
              case hfz5 => kernel_rfl
              case hrz5 => kernel_rfl
              case hyz5 => refine Or.inl ⟨by rfl, ?_⟩; intro w hSw; (try dsimp only at hSw); go_simp; first | done | with_reducible rfl
              try simp only [Act.put, List.setIfInBounds_toArray, List.set_cons_zero, List.set_cons_succ]
              refine wpAnyH_take (i := 6) (oi := ?oiz6) (v := ?vz6) (hi := ?hiz6) (hs := ?hsz6) (hf := ?hfz6) (hr := ?hrz6) (hQ := fun _ _ _ h => h) (hy := ?hyz6) (hS := hHeld) (h := ?hhz6)
              case hiz6 => simp only [List.getElem?_toArray, List.getElem?_cons_succ, List.getElem?_cons_zero]; rfl
              case hsz6 => kernel_rfl
              case hfz6 => kernel_rfl
              case hrz6 => kernel_rfl
              case hyz6 => refine Or.inl ⟨by rfl, ?_⟩; intro w hSw; (try dsimp only at hSw); go_simp; first | done | with_reducible rfl
              try simp only [Act.put, List.setIfInBounds_toArray, List.set_cons_zero, List.set_cons_succ]
              refine wpAnyH_take (i := 7) (oi := ?oiz7) (v := ?vz7) (hi := ?hiz7) (hs := ?hsz7) (hf := ?hfz7) (hr := ?hrz7) (hQ := fun _ _ _ h => h) (hy := ?hyz7) (hS := hHeld) (h := ?hhz7)
              case hiz7 => simp only [List.getElem?_toArray, List.getElem?_cons_succ, List.getElem?_cons_zero]; rfl
              case hsz7 => kernel_rfl
              case hfz7 => kernel_rfl
              case hrz7 => kernel_rfl
              case hyz7 => refine Or.inl ⟨by rfl, ?_⟩; intro w hSw; (try dsimp only at hSw); go_simp; first | done | with_reducible rfl
              try simp only [Act.put, List.setIfInBounds_toArray, List.set_cons_zero, List.set_cons_succ]
              refine wpAnyH_take (i := 8) (oi := ?oiz8) (v := ?vz8) (hi := ?hiz8) (hs := ?hsz8) (hf := ?hfz8) (hr := ?hrz8) (hQ := fun _ _ _ h => h) (hy := ?hyz8) (hS := hHeld) (h := ?hhz8)
              case hiz8 => simp only [List.getElem?_toArray, List.getElem?_cons_succ, List.getElem?_cons_zero]; rfl
              case hsz8 => kernel_rfl
              case hfz8 => kernel_rfl
              case hrz8 => kernel_rfl
              case hyz8 => refine Or.inl ⟨by rfl, ?_⟩; intro w hSw; (try dsimp only at hSw); go_simp; first | done | with_reducible rfl
              try simp only [Act.put, List.setIfInBounds_toArray, List.set_cons_zero, List.set_cons_succ]
              refine wpAnyH_ready (rs := [9]) (by kernel_rfl) (by simp) ?_
              refine AllReadyH.cons (o := ?oiz9) (ho := ?hiz9) (h := ?hhz9) (hs := AllReadyH.nil)
              case hiz9 => simp only [List.getElem?_toArray, List.getElem?_cons_succ, List.getElem?_cons_zero]; rfl
              intro K hK
              go_simp
              refine (ref_given p n c l _ (by omega) (HEV.out.ext ((Ext.refl _).drewN 1))).mono ?_
              rintro e w5 ⟨v5, rfl, hv5, g5⟩
              go_wp2_with fail
              refine hK.out _ _ (keep_tally g5 hHeld) (fun hHeld => ?_)
              clear hK K
              try simp only [Act.put, List.setIfInBounds_toArray, List.set_cons_zero, List.set_cons_succ]
              refine wpAnyH_ready (rs := [10]) (by kernel_rfl) (by simp) ?_
              refine AllReadyH.cons (o := ?oiz10) (ho := ?hiz10) (h := ?hhz10) (hs := AllReadyH.nil)
              case hiz10 => simp only [List.getElem?_toArray, List.getElem?_cons_succ, List.getElem?_cons_zero]; rfl
              intro K hK
              go_simp
              refine (ref_same g v5 _ _ _ (HD.out.ext (((Ext.refl _).drewN 1).trans g5)) hv5).mono ?_
              rw [decide_eq_true rfl]
              rintro e w6 ⟨rfl, g6⟩
              go_wp2_with fail
              refine hK.out _ _ (keep_tally g6 hHeld) (fun hHeld => ?_)
              clear hK K
              try simp only [Act.put, List.setIfInBounds_toArray, List.set_cons_zero, List.set_cons_succ]
              refine wpAnyH_take (i := 11) (oi := ?oiz11) (v := ?vz11) (hi := ?hiz11) (hs := ?hsz11) (hf := ?hfz11) (hr := ?hrz11) (hQ := fun _ _ _ h => h) (hy := ?hyz11) (hS := hHeld) (h := ?hhz11)
              case hiz11 => simp only [List.getElem?_toArray, List.getElem?_cons_succ, List.getElem?_cons_zero]; rfl
              case hsz11 => kernel_rfl
              case hfz11 => kernel_rfl
              case hrz11 => kernel_rfl
              case hyz11 => refine Or.inl ⟨by rfl, ?_⟩; intro w hSw; (try dsimp only at hSw); go_simp; first | done | with_reducible rfl
              try simp only [Act.put, List.setIfInBounds_toArray, List.set_cons_zero, List.set_cons_succ]
              refine wpAnyH_take (i := 12) (oi := ?oiz12) (v := ?vz12) (hi := ?hiz12) (hs := ?hsz12) (hf := ?hfz12) (hr := ?hrz12) (hQ := fun _ _ _ h => h) (hy := ?hyz12) (hS := hHeld) (h := ?hhz12)
              case hiz12 => simp only [List.getElem?_toArray, List.getElem?_cons_succ, List.getElem?_cons_zero]; rfl
              case hsz12 => kernel_rfl
              case hfz12 => kernel_rfl
              case hrz12 => kernel_rfl
              case hyz12 => refine Or.inl ⟨by rfl, ?_⟩; intro w hSw; (try dsimp only at hSw); go_simp; first | done | with_reducible rfl
              try simp only [Act.put, List.setIfInBounds_toArray, List.set_cons_zero, List.set_cons_succ]
              refine wpAnyH_take (i := 13) (oi := ?oiz13) (v := ?vz13) (hi := ?hiz13) (hs := ?hsz13) (hf := ?hfz13) (hr := ?hrz13) (hQ := fun _ _ _ h => h) (hy := ?hyz13) (hS := hHeld) (h := ?hhz13)
              case hiz13 => simp only [List.getElem?_toArray, List.getElem?_cons_succ, List.getElem?_cons_zero]; rfl
              case hsz13 => kernel_rfl
              case hfz13 => kernel_rfl
              case hrz13 => kernel_rfl
              case hyz13 => refine yieldsIf_load_mid ?_ 28 (.tmp 3) ?_ T 0 ?_ X _ ?_ hu rfl hi; rfl; rfl; rfl; exact fun _ h => h.1
              try simp only [Act.put, List.setIfInBounds_toArray, List.set_cons_zero, List.set_cons_succ]
              refine wpAnyH_take (i := 15) (oi := ?oiz15) (v := ?vz15) (hi := ?hiz15) (hs := ?hsz15) (hf := ?hfz15) (hr := ?hrz15) (hQ := fun _ _ _ h => h) (hy := ?hyz15) (hS := hHeld) (h := ?hhz15)
              case hiz15 => simp only [List.getElem?_toArray, List.getElem?_cons_succ, List.getElem?_cons_zero]; rfl
              case hsz15 => kernel_rfl
              case hfz15 => kernel_rfl
              case hrz15 => kernel_rfl
              case hyz15 => refine Or.inl ⟨by rfl, ?_⟩; intro w hSw; (try dsimp only at hSw); go_simp; first | done | with_reducible rfl
              try simp only [Act.put, List.setIfInBounds_toArray, List.set_cons_zero, List.set_cons_succ]
              refine wpAnyH_ready (rs := [14]) (by kernel_rfl) (by simp) ?_
              refine AllReadyH.cons (o := ?oiz14) (ho := ?hiz14) (h := ?hhz14) (hs := AllReadyH.nil)
              case hiz14 => simp only [List.getElem?_toArray, List.getElem?_cons_succ, List.getElem?_cons_zero]; rfl
              intro K hK
              go_simp
              refine (HSH.out _).mono ?_
              rintro e w7 ⟨rfl, g7⟩
              go_wp2_with fail
              refine hK.out _ _ (keep_tally g7 hHeld) (fun hHeld => ?_)
              clear hK K
              try simp only [Act.put, List.setIfInBounds_toArray, List.set_cons_zero, List.set_cons_succ]
              refine wpAnyH_take (i := 16) (oi := ?oiz16) (v := ?vz16) (hi := ?hiz16) (hs := ?hsz16) (hf := ?hfz16) (hr := ?hrz16) (hQ := fun _ _ _ h => h) (hy := ?hyz16) (hS := hHeld) (h := ?hhz16)
              case hiz16 => simp only [List.getElem?_toArray, List.getElem?_cons_succ, List.getElem?_cons_zero]; rfl
              case hsz16 => kernel_rfl
              case hfz16 => kernel_rfl
              case hrz16 => kernel_rfl
              case hyz16 => refine Or.inl ⟨by rfl, ?_⟩; intro w hSw; (try dsimp only at hSw); go_simp; first | done | with_reducible rfl
              try simp only [Act.put, List.setIfInBounds_toArray, List.set_cons_zero, List.set_cons_succ]
              refine wpAnyH_take (i := 17) (oi := ?oiz17) (v := ?vz17) (hi := ?hiz17) (hs := ?hsz17) (hf := ?hfz17) (hr := ?hrz17) (hQ := fun _ _ _ h => h) (hy := ?hyz17) (hS := hHeld) (h := ?hhz17)
              case hiz17 => simp only [List.getElem?_toArray, List.getElem?_cons_succ, List.getElem?_cons_zero]; rfl
              case hsz17 => kernel_rfl
              case hfz17 => kernel_rfl
              case hrz17 => kernel_rfl
              case hyz17 => refine Or.inl ⟨by rfl, ?_⟩; intro w hSw; (try dsimp only at hSw); go_simp; first | done | with_reducible rfl
              try simp only [Act.put, List.setIfInBounds_toArray, List.set_cons_zero, List.set_cons_succ]
              refine wpAnyH_take (i := 18) (oi := ?oiz18) (v := ?vz18) (hi := ?hiz18) (hs := ?hsz18) (hf := ?hfz18) (hr := ?hrz18) (hQ := fun _ _ _ h => h) (hy := ?hyz18) (hS := hHeld) (h := ?hhz18)
              case hiz18 => simp only [List.getElem?_toArray, List.getElem?_cons_succ, List.getElem?_cons_zero]; rfl
              case hsz18 => kernel_rfl
              case hfz18 => kernel_rfl
              case hrz18 => kernel_rfl
              case hyz18 => refine Or.inl ⟨by rfl, ?_⟩; intro w hSw; (try dsimp only at hSw); go_simp; first | done | with_reducible rfl
              try simp only [Act.put, List.setIfInBounds_toArray, List.set_cons_zero, List.set_cons_succ]
              refine wpAnyH_ready (rs := [19]) (by kernel_rfl) (by simp) ?_
              refine AllReadyH.cons (o := ?oiz19) (ho := ?hiz19) (h := ?hhz19) (hs := AllReadyH.nil)
              case hiz19 => simp only [List.getElem?_toArray, List.getElem?_cons_succ, List.getElem?_cons_zero]; rfl
              intro K hK
              go_simp
              refine (tally_awake _).mono ?_
              rintro e w8 ⟨rfl, g8⟩
              go_wp2_with fail
              refine hK.out _ _ (keep_tally g8 hHeld) (fun hHeld => ?_)
              clear hK K
              try simp only [Act.put, List.setIfInBounds_toArray, List.set_cons_zero, List.set_cons_succ]
              refine wpAnyH_take (i := 20) (oi := ?oiz20) (v := ?vz20) (hi := ?hiz20) (hs := ?hsz20) (hf := ?hfz20) (hr := ?hrz20) (hQ := fun _ _ _ h => h) (hy := ?hyz20) (hS := hHeld) (h := ?hhz20)
              case hiz20 => simp only [List.getElem?_toArray, List.getElem?_cons_succ, List.getElem?_cons_zero]; rfl
              case hsz20 => kernel_rfl
              case hfz20 => kernel_rfl
              case hrz20 => kernel_rfl
              case hyz20 => refine Or.inl ⟨by rfl, ?_⟩; intro w hSw; (try dsimp only at hSw); go_simp; first | done | with_reducible rfl
              try simp only [Act.put, List.setIfInBounds_toArray, List.set_cons_zero, List.set_cons_succ]
              refine wpAnyH_take (i := 21) (oi := ?oiz21) (v := ?vz21) (hi := ?hiz21) (hs := ?hsz21) (hf := ?hfz21) (hr := ?hrz21) (hQ := fun _ _ _ h => h) (hy := ?hyz21) (hS := hHeld) (h := ?hhz21)
              case hiz21 => simp only [List.getElem?_toArray, List.getElem?_cons_succ, List.getElem?_cons_zero]; rfl
              case hsz21 => kernel_rfl
              case hfz21 => kernel_rfl
              case hrz21 => kernel_rfl
              case hyz21 => refine Or.inl ⟨by rfl, ?_⟩; intro w hSw; (try dsimp only at hSw); go_simp; first | done | with_reducible rfl
              try simp only [Act.put, List.setIfInBounds_toArray, List.set_cons_zero, List.set_cons_succ]
              refine wpAnyH_done (by kernel_rfl) ?_ _
              refine NoPanic.normal ?_
              go_wp2
              go_ret
              exact ⟨rfl, HXr.out.trans ((((Ext.refl wr).drewN 1).trans g5).trans (g6.trans (g7.trans g8)))⟩

end Go.Proofs.Ytmdeepdediafbaa
