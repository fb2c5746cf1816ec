/- What tally's With answers: both tallies together. -/
import Derived.Test.YtmdeepdediafbaaTallySameWalk
namespace Go.Proofs.Ytmdeepdediafbaa
open Go.RowKit

/-- Both tallies' numbers, as far as they are added. -/
def sumAt (x y : Nat → Int) (a b c : Nat) : Nat → Int := fun j => if j = 0 ∨ (1 ≤ j ∧ j < 1 + a) ∨ (14 ≤ j ∧ j < 14 + b) ∨ (27 ≤ j ∧ j < 27 + c) then x j + y j else 0

theorem sumAt_put {x y : Nat → Int} {a b c a' b' c' i : Nat} (h : ∀ j, (j = 0 ∨ (1 ≤ j ∧ j < 1 + a') ∨ (14 ≤ j ∧ j < 14 + b') ∨ (27 ≤ j ∧ j < 27 + c')) ↔ (j = i ∨ (j = 0 ∨ (1 ≤ j ∧ j < 1 + a) ∨ (14 ≤ j ∧ j < 14 + b) ∨ (27 ≤ j ∧ j < 27 + c)))) :
    (fun j => if j = i then x i + y i else sumAt x y a b c j) = sumAt x y a' b' c' := by
  funext j
  unfold sumAt
  by_cases hj : j = i
  · subst hj
    rw [if_pos rfl, if_pos ((h j).2 (.inl rfl))]
  · rw [if_neg hj]
    by_cases h2 : j = 0 ∨ (1 ≤ j ∧ j < 1 + a) ∨ (14 ≤ j ∧ j < 14 + b) ∨ (27 ≤ j ∧ j < 27 + c)
    · rw [if_pos h2, if_pos ((h j).2 (.inr h2))]
    · rw [if_neg h2, if_neg fun h3 => (((h j).1 h3).elim hj h2)]

theorem sumAt_full (x y : Nat → Int) : tallyCells (sumAt x y 13 13 17) = tallyCells (fun j => x j + y j) := by
  funext g
  unfold tallyCells
  congr 1

/-- The tally that With is making, in a block of its own. -/
structure WithAt (w wx : World) (T : Nat) (z : Nat → Int) (k : Value) (K : List Dot) : Prop where
  num : ∀ i, i < 44 → wx.cell? ⟨T, i, none⟩ = some (.int .i64 (z i))
  giv : wx.cell? ⟨T, 44, none⟩ = some k
  melt : ∀ i, i < 45 → wx.frozen? ⟨T, i, none⟩ = false
  dots : DotsV wx k K
  apart : ∀ q n c, k = .slice (some q) n c → n ≠ 0 → q.block ≠ T
  new : w.heap.size ≤ T
  newk : ∀ q n c, k = .slice (some q) n c → w.heap.size ≤ q.block
  ext : Ext w wx

theorem there_any {w : World} {T : Nat} {x : Nat → Int} {g : Value} (h : w.there T 0 (tallyCells x g).toArray.size) : w.there T 0 45 := by
  have e : (tallyCells x g).toArray.size = 45 := by simp [tallyCells_length]
  rw [e] at h; exact h
theorem there_ext {w w' : World} {T n : Nat} (h : w.there T 0 n) (he : Ext w w') : w'.there T 0 n := fun j hj => by
  obtain ⟨h1, h2⟩ := h j hj
  obtain ⟨u, hu⟩ := Option.isSome_iff_exists.1 h1
  exact ⟨by rw [he.cell hu]; rfl, (he.frozen hu).trans h2⟩

theorem with_laid {w w5 : World} {T : Nat} {z : Nat → Int} {k : Value} {K : List Dot} (ht : w5.there T 0 45) (hd : DotsV w5 k K) (ha : ∀ q n c, k = .slice (some q) n c → n ≠ 0 → q.block ≠ T) (hn : w.heap.size ≤ T) (hk : ∀ q n c, k = .slice (some q) n c → w.heap.size ≤ q.block) (he : Ext w w5) :
    WithAt w (w5.setCells T 0 (tallyCells z k)) T z k K := by
  have hr := World.rangeAt_setCells_same w5 T 0 (tallyCells z k) (by rw [tallyCells_length]; exact ht)
  have hm := World.there_setCells ht T 0 (tallyCells z k)
  refine ⟨fun i hi => ?_, ?_, fun i hi => ?_, hd.setCells ha, ha, hn, hk, Ext.setCells _ hn _ _ _ he⟩
  · have := hr i _ (tallyCells_num z k i hi); rw [Nat.zero_add] at this; exact this
  · have := hr 44 _ (tallyCells_giv z k); rw [Nat.zero_add] at this; exact this
  · have := (hm i hi).2; rw [Nat.zero_add] at this; exact this

theorem WithAt.put {w wx : World} {T : Nat} {z : Nat → Int} {k : Value} {K : List Dot} (h : WithAt w wx T z k K) (i : Nat) (hi : i < 44) (v : Int) : WithAt w (wx.setCell ⟨T, i, none⟩ (.int .i64 v)).drew T (fun j => if j = i then v else z j) k K := by
  refine ⟨fun j hj => ?_, ?_, fun j hj => ?_, ?_, h.apart, h.new, h.newk, (h.ext.setCell h.new _).drewN 1⟩
  · show (wx.setCell ⟨T, i, none⟩ (.int .i64 v)).cell? ⟨T, j, none⟩ = _
    by_cases hij : j = i
    · subst hij
      simp only [if_true]
      exact World.cell?_setCell_same' _ _ _ (by rw [h.num j hj]; rfl)
    · simp only [hij, if_false]
      exact (World.cell?_setCell_other _ _ _ _ (by simp <;> omega)).trans (h.num j hj)
  · show (wx.setCell ⟨T, i, none⟩ (.int .i64 v)).cell? ⟨T, 44, none⟩ = _
    exact (World.cell?_setCell_other _ _ _ _ (by simp <;> omega)).trans h.giv
  · show (wx.setCell ⟨T, i, none⟩ (.int .i64 v)).frozen? ⟨T, j, none⟩ = _
    rw [World.frozen?_setCell]; exact h.melt j hj
  · exact (h.dots.setCell_apart h.apart).ext ((Ext.refl _).drewN 1)

theorem WithAt.range {w wx : World} {T : Nat} {z : Nat → Int} {k : Value} {K : List Dot} (h : WithAt w wx T z k K) : wx.rangeAt T 0 (tallyCells z k) := fun j v hv => by
  have hj : j < 45 := by have := (List.getElem?_eq_some_iff.1 hv).1; rw [tallyCells_length] at this; exact this
  rw [Nat.zero_add]
  rcases Nat.lt_or_ge j 44 with h1 | h1
  · rw [tallyCells_num z k j h1] at hv
    rw [h.num j h1]; exact hv
  · obtain rfl : j = 44 := by omega
    rw [tallyCells_giv] at hv
    rw [h.giv]; exact hv

theorem keep_four {w w' : World} {a1 a2 a3 a4 : Addr} {v1 v2 v3 v4 : Value} (he : Ext w w') (h : w.cell? a1 = some v1 ∧ w.cell? a2 = some v2 ∧ w.cell? a3 = some v3 ∧ w.cell? a4 = some v4) : w'.cell? a1 = some v1 ∧ w'.cell? a2 = some v2 ∧ w'.cell? a3 = some v3 ∧ w'.cell? a4 = some v4 :=
  ⟨he.cell h.1, he.cell h.2.1, he.cell h.2.2.1, he.cell h.2.2.2⟩

set_option maxRecDepth 100000 in
set_option maxHeartbeats 4000000 in
theorem tally_with (x y : Nat → Int) (g h : Value) (G H : List Dot) (w : World) (hx : ∀ i, 0 ≤ x i ∧ x i ≤ 1000000) (hy : ∀ i, 0 ≤ y i ∧ y i ≤ 1000000) (hg : DotsV w g G) (hh : DotsV w h H) :
    Calls Try.prog 14 #[.agg (tallyCells x g).toArray, .agg (tallyCells y h).toArray] w fun e w' => ∃ k, e = .returned (.agg (tallyCells (fun j => x j + y j) k).toArray) ∧ DotsV w' k (Vec.joinL G H) ∧ Ext w w' := by
  have HBX := Lib.hid hx
  have HBY := Lib.hid hy
  clear hx hy
  go_enter Try.func14, Try.ntmps14
  go_upto_region 1 with fail
  generalize hL : ([.int .i64 0, .int .i64 0, .int .i64 0, .int .i64 0, .int .i64 0, .int .i64 0, .int .i64 0, .int .i64 0, .int .i64 0, .int .i64 0, .int .i64 0, .int .i64 0, .int .i64 0, .int .i64 0, .int .i64 0, .int .i64 0, .int .i64 0, .int .i64 0, .int .i64 0, .int .i64 0, .int .i64 0, .int .i64 0, .int .i64 0, .int .i64 0, .int .i64 0, .int .i64 0, .int .i64 0, .int .i64 0, .int .i64 0, .int .i64 0, .int .i64 0, .int .i64 0, .int .i64 0, .int .i64 0, .int .i64 0, .int .i64 0, .int .i64 0, .int .i64 0, .int .i64 0, .int .i64 0, .int .i64 0, .int .i64 0, .int .i64 0, .int .i64 0, .slice none 0 0] : List Value) = L
  have hLs : L.toArray.size = 45 := by rw [← hL]; rfl
  have hE : Ext w (((w.alloc (.cells (tallyCells x g).toArray 28)).alloc (.cells (tallyCells y h).toArray 28)).alloc (.cells L.toArray 28)) := (((Ext.refl w).alloc _).alloc _).alloc _
  have r1 : (((w.alloc (.cells (tallyCells x g).toArray 28)).alloc (.cells (tallyCells y h).toArray 28)).alloc (.cells L.toArray 28)).rangeAt w.heap.size 0 (tallyCells x g) := by
    refine World.rangeAt_alloc (World.rangeAt_alloc ?_ _) _
    intro j v hv
    rw [Nat.zero_add, alloc_cell, List.getElem?_toArray]; exact hv
  have r2 : (((w.alloc (.cells (tallyCells x g).toArray 28)).alloc (.cells (tallyCells y h).toArray 28)).alloc (.cells L.toArray 28)).rangeAt (w.heap.size + 1) 0 (tallyCells y h) := by
    refine World.rangeAt_alloc ?_ _
    intro j v hv
    have := alloc_cell (w.alloc (.cells (tallyCells x g).toArray 28)) (tallyCells y h).toArray 28 j
    rw [World.size_alloc] at this
    rw [Nat.zero_add, this, List.getElem?_toArray]; exact hv
  have hR := there_new ((w.alloc (.cells (tallyCells x g).toArray 28)).alloc (.cells (tallyCells y h).toArray 28)) L.toArray 28
  rw [hLs, World.size_alloc, World.size_alloc] at hR
  have hs3 : (((w.alloc (.cells (tallyCells x g).toArray 28)).alloc (.cells (tallyCells y h).toArray 28)).alloc (.cells L.toArray 28)).heap.size = w.heap.size + 3 := by simp
  have HS3 := Lib.hid hs3
  clear hs3
  clear hL hLs
  generalize ((w.alloc (.cells (tallyCells x g).toArray 28)).alloc (.cells (tallyCells y h).toArray 28)).alloc (.cells L.toArray 28) = w3 at *
  generalize Value.agg (tallyCells x g).toArray = XV at *
  generalize Value.agg (tallyCells y h).toArray = YV at *
  have cx : ∀ j, j < 44 → w3.cell? ⟨w.heap.size, j, none⟩ = some (.int .i64 (x j)) := fun j hj => by have := r1 j _ (tallyCells_num x g j hj); rw [Nat.zero_add] at this; exact this
  have cy : ∀ j, j < 44 → w3.cell? ⟨w.heap.size + 1, j, none⟩ = some (.int .i64 (y j)) := fun j hj => by have := r2 j _ (tallyCells_num y h j hj); rw [Nat.zero_add] at this; exact this
  have x44 : w3.cell? ⟨w.heap.size, 44, none⟩ = some g := by have := r1 44 _ (tallyCells_giv x g); rw [Nat.zero_add] at this; exact this
  have y44 : w3.cell? ⟨w.heap.size + 1, 44, none⟩ = some h := by have := r2 44 _ (tallyCells_giv y h); rw [Nat.zero_add] at this; exact this
  have hS0 : w3.drew.cell? ⟨w.heap.size, 0, none⟩ = some (.int .i64 (x 0)) ∧ w3.drew.cell? ⟨w.heap.size, 44, none⟩ = some g ∧ w3.drew.cell? ⟨w.heap.size + 1, 0, none⟩ = some (.int .i64 (y 0)) ∧ w3.drew.cell? ⟨w.heap.size + 1, 44, none⟩ = some h := ⟨cx 0 (by omega), x44, cy 0 (by omega), y44⟩
  have CX := Lib.hid cx
  have CY := Lib.hid cy
  have HR := Lib.hid hR
  have HE := Lib.hid hE
  have HG := Lib.hid (hg.ext hE)
  have HH := Lib.hid (hh.ext hE)
  clear cx cy r1 r2 hR hE hg hh x44 y44
  go_cut [5] from 8 (fun s wx => ∃ T k, s = .pointer (some ⟨T, 0, none⟩) ∧ WithAt w3 wx T (sumAt x y 0 0 0) k (Vec.joinL G H))
  case first =>
    have bx := HBX.out 0
    have bb := HBY.out 0
    have hw0 : IntKind.i64.wrap (x 0 + y 0) = x 0 + y 0 := IntWalk.i64_in _ (by omega)
    refine wp_region_noPanic ?_
    refine wp_region_held_drew (S := fun w' => w'.cell? ⟨w.heap.size, 0, none⟩ = some (.int .i64 (x 0)) ∧ w'.cell? ⟨w.heap.size, 44, none⟩ = some g ∧ w'.cell? ⟨w.heap.size + 1, 0, none⟩ = some (.int .i64 (y 0)) ∧ w'.cell? ⟨w.heap.size + 1, 44, none⟩ = some h) (by kernel_rfl) hS0 (fun hHeld => ?_)
    refine wpAnyH_take (i := 0) (oi := ?oia0) (v := ?va0) (hi := ?hia0) (hs := ?hsa0) (hf := ?hfa0) (hr := ?hra0) (hQ := fun _ _ _ h => h) (hy := ?hya0) (hS := hHeld) (h := ?hha0)
    case hia0 => simp only [List.getElem?_toArray, List.getElem?_cons_succ, List.getElem?_cons_zero]; rfl
    case hsa0 => kernel_rfl
    case hfa0 => kernel_rfl
    case hra0 => kernel_rfl
    case hya0 => refine Or.inl ⟨by rfl, ?_⟩; intro w hSw; (try dsimp only at hSw); go_simp; first | done | with_reducible rfl
    try simp only [Act.put, List.setIfInBounds_toArray, List.set_cons_zero, List.set_cons_succ]
    refine wpAnyH_take (i := 1) (oi := ?oia1) (v := ?va1) (hi := ?hia1) (hs := ?hsa1) (hf := ?hfa1) (hr := ?hra1) (hQ := fun _ _ _ h => h) (hy := ?hya1) (hS := hHeld) (h := ?hha1)
    case hia1 => simp only [List.getElem?_toArray, List.getElem?_cons_succ, List.getElem?_cons_zero]; rfl
    case hsa1 => kernel_rfl
    case hfa1 => kernel_rfl
    case hra1 => kernel_rfl
    case hya1 => refine Or.inl ⟨by rfl, ?_⟩; intro w hSw; (try dsimp only at hSw); go_simp; first | done | with_reducible rfl
    try simp only [Act.put, List.setIfInBounds_toArray, List.set_cons_zero, List.set_cons_succ]
    refine wpAnyH_take (i := 2) (oi := ?oia2) (v := ?va2) (hi := ?hia2) (hs := ?hsa2) (hf := ?hfa2) (hr := ?hra2) (hQ := fun _ _ _ h => h) (hy := ?hya2) (hS := hHeld) (h := ?hha2)
    case hia2 => simp only [List.getElem?_toArray, List.getElem?_cons_succ, List.getElem?_cons_zero]; rfl
    case hsa2 => kernel_rfl
    case hfa2 => kernel_rfl
    case hra2 => kernel_rfl
    case hya2 => refine Or.inl ⟨by rfl, ?_⟩; intro w hSw; (try dsimp only at hSw); go_simp; first | done | with_reducible rfl
    try simp only [Act.put, List.setIfInBounds_toArray, List.set_cons_zero, List.set_cons_succ]
    refine wpAnyH_take (i := 3) (oi := ?oia3) (v := ?va3) (hi := ?hia3) (hs := ?hsa3) (hf := ?hfa3) (hr := ?hra3) (hQ := fun _ _ _ h => h) (hy := ?hya3) (hS := hHeld) (h := ?hha3)
    case hia3 => simp only [List.getElem?_toArray, List.getElem?_cons_succ, List.getElem?_cons_zero]; rfl
    case hsa3 => kernel_rfl
    case hfa3 => kernel_rfl
    case hra3 => kernel_rfl
    case hya3 => refine Or.inl ⟨by rfl, ?_⟩; intro w hSw; (try dsimp only at hSw); go_simp; first | done | with_reducible rfl
    try simp only [Act.put, List.setIfInBounds_toArray, List.set_cons_zero, List.set_cons_succ]
    refine wpAnyH_take (i := 4) (oi := ?oia4) (v := ?va4) (hi := ?hia4) (hs := ?hsa4) (hf := ?hfa4) (hr := ?hra4) (hQ := fun _ _ _ h => h) (hy := ?hya4) (hS := hHeld) (h := ?hha4)
    case hia4 => simp only [List.getElem?_toArray, List.getElem?_cons_succ, List.getElem?_cons_zero]; rfl
    case hsa4 => kernel_rfl
    case hfa4 => kernel_rfl
    case hra4 => kernel_rfl
    case hya4 => refine Or.inl ⟨by rfl, ?_⟩; intro w hSw; (try dsimp only at hSw); go_simp; first | done | with_reducible rfl
    try simp only [Act.put, List.setIfInBounds_toArray, List.set_cons_zero, List.set_cons_succ]
    refine wpAnyH_take (i := 5) (oi := ?oia5) (v := ?va5) (hi := ?hia5) (hs := ?hsa5) (hf := ?hfa5) (hr := ?hra5) (hQ := fun _ _ _ h => h) (hy := ?hya5) (hS := hHeld) (h := ?hha5)
    case hia5 => simp only [List.getElem?_toArray, List.getElem?_cons_succ, List.getElem?_cons_zero]; rfl
    case hsa5 => kernel_rfl
    case hfa5 => kernel_rfl
    case hra5 => kernel_rfl
    case hya5 => refine Or.inl ⟨by rfl, ?_⟩; intro w hSw; (try dsimp only at hSw); go_simp; first | done | with_reducible rfl
    try simp only [Act.put, List.setIfInBounds_toArray, List.set_cons_zero, List.set_cons_succ]
    refine wpAnyH_take (i := 6) (oi := ?oia6) (v := ?va6) (hi := ?hia6) (hs := ?hsa6) (hf := ?hfa6) (hr := ?hra6) (hQ := fun _ _ _ h => h) (hy := ?hya6) (hS := hHeld) (h := ?hha6)
    case hia6 => simp only [List.getElem?_toArray, List.getElem?_cons_succ, List.getElem?_cons_zero]; rfl
    case hsa6 => kernel_rfl
    case hfa6 => kernel_rfl
    case hra6 => kernel_rfl
    case hya6 => refine Or.inl ⟨by rfl, ?_⟩; intro w hSw; (try dsimp only at hSw); go_simp; first | done | with_reducible rfl
    try simp only [Act.put, List.setIfInBounds_toArray, List.set_cons_zero, List.set_cons_succ]
    refine wpAnyH_take (i := 7) (oi := ?oia7) (v := ?va7) (hi := ?hia7) (hs := ?hsa7) (hf := ?hfa7) (hr := ?hra7) (hQ := fun _ _ _ h => h) (hy := ?hya7) (hS := hHeld) (h := ?hha7)
    case hia7 => simp only [List.getElem?_toArray, List.getElem?_cons_succ, List.getElem?_cons_zero]; rfl
    case hsa7 => kernel_rfl
    case hfa7 => kernel_rfl
    case hra7 => kernel_rfl
    case hya7 => refine Or.inl ⟨by rfl, ?_⟩; intro w hSw; (try dsimp only at hSw); go_simp; first | done | with_reducible rfl
    try simp only [Act.put, List.setIfInBounds_toArray, List.set_cons_zero, List.set_cons_succ]
    refine wpAnyH_take (i := 8) (oi := ?oia8) (v := ?va8) (hi := ?hia8) (hs := ?hsa8) (hf := ?hfa8) (hr := ?hra8) (hQ := fun _ _ _ h => h) (hy := ?hya8) (hS := hHeld) (h := ?hha8)
    case hia8 => simp only [List.getElem?_toArray, List.getElem?_cons_succ, List.getElem?_cons_zero]; rfl
    case hsa8 => kernel_rfl
    case hfa8 => kernel_rfl
    case hra8 => kernel_rfl
    case hya8 => refine Or.inl ⟨by rfl, ?_⟩; intro w hSw; (try dsimp only at hSw); go_simp; first | done | with_reducible rfl
    try simp only [Act.put, List.setIfInBounds_toArray, List.set_cons_zero, List.set_cons_succ]
    refine wpAnyH_ready (rs := [9, 11]) (by kernel_rfl) (by simp) ?_
    refine AllReadyH.cons (o := ?oib9) (ho := ?hib9) (h := ?hhb9) (hs := ?hsb9)
    case hib9 => simp only [List.getElem?_toArray, List.getElem?_cons_succ, List.getElem?_cons_zero]; rfl
    case hhb9 =>
      intro K hK
      go_simp
      refine (vec_join g h G H _ (HG.out.ext ((Ext.refl _).drewN 1)) (HH.out.ext ((Ext.refl _).drewN 1))).mono ?_
      rintro e w5 ⟨k, rfl, hk, hnk, g5⟩
      have hk2 := hk
      obtain ⟨pk, ck, rfl, _⟩ := hk2
      go_wp2_with fail
      refine hK.out _ _ (keep_four g5 hHeld) (fun hHeld => ?_); have hHeldC := hHeld
      clear hK K
      try simp only [Act.put, List.setIfInBounds_toArray, List.set_cons_zero, List.set_cons_succ]
      refine wpAnyH_take (i := 10) (oi := ?oic10) (v := ?vc10) (hi := ?hic10) (hs := ?hsc10) (hf := ?hfc10) (hr := ?hrc10) (hQ := fun _ _ _ h => h) (hy := ?hyc10) (hS := hHeld) (h := ?hhc10)
      case hic10 => simp only [List.getElem?_toArray, List.getElem?_cons_succ, List.getElem?_cons_zero]; rfl
      case hsc10 => kernel_rfl
      case hfc10 => kernel_rfl
      case hrc10 => kernel_rfl
      case hyc10 => refine Or.inl ⟨by rfl, ?_⟩; intro w hSw; (try dsimp only at hSw); go_simp; first | done | with_reducible rfl
      try simp only [Act.put, List.setIfInBounds_toArray, List.set_cons_zero, List.set_cons_succ]
      refine wpAnyH_ready (rs := [11]) (by kernel_rfl) (by simp) ?_
      refine AllReadyH.cons (o := ?oic11) (ho := ?hic11) (h := ?hhc11) (hs := AllReadyH.nil)
      case hic11 => simp only [List.getElem?_toArray, List.getElem?_cons_succ, List.getElem?_cons_zero]; rfl
      intro K hK
      go_simp
      refine hK.out _ _ (keep_four ((Ext.refl w5).alloc _) hHeld) (fun hHeld => ?_)
      clear hK K
      try simp only [Act.put, List.setIfInBounds_toArray, List.set_cons_zero, List.set_cons_succ]
      refine wpAnyH_ready (rs := [12]) (by kernel_rfl) (by simp) ?_
      refine AllReadyH.cons (o := ?oic12) (ho := ?hic12) (h := ?hhc12) (hs := AllReadyH.nil)
      case hic12 => simp only [List.getElem?_toArray, List.getElem?_cons_succ, List.getElem?_cons_zero]; rfl
      intro K hK
      rw [if_pos (by rfl)]
      refine wp_store_mid 28 (.tmp 5) (.tmp 18) rfl w5.heap.size 0 (tallyCells (sumAt x y 0 0 0) (.slice pk (Vec.joinL G H).length ck)).toArray rfl rfl (there_cells _ _ rfl _ _ _) (info_cellsA _ _) (all_oneCell_toArray (tallyCells_one hk)) ?_
      refine hK.out _ _ (keep_four (Ext.setCells _ (Nat.le_refl _) _ _ _ ((Ext.refl w5).alloc _)) hHeldC) (fun hHeld => ?_)
      clear hK K
      try simp only [Act.put, List.setIfInBounds_toArray, List.set_cons_zero, List.set_cons_succ]
      refine wpAnyH_done (by kernel_rfl) ?_ _
      refine NoPanic.normal ?_
      go_wp2_with fail
      go_meet
      refine ⟨_, _, rfl, with_laid (there_any (there_cells _ _ rfl _ (sumAt x y 0 0 0) g)) (hk.ext ((Ext.refl w5).alloc _)) (fun q n c e h0 => by have := hk.lt q n c e h0; omega) ?_ ?_ ?_⟩
      · have := g5.size; exact this
      · intro q n c e; have := hnk q n c e; exact this
      · exact ((Ext.refl _).drewN 1).trans (g5.trans ((Ext.refl w5).alloc _))
    case hsb9 =>
      refine AllReadyH.cons (o := ?oid11) (ho := ?hid11) (h := ?hhd11) (hs := AllReadyH.nil)
      case hid11 => simp only [List.getElem?_toArray, List.getElem?_cons_succ, List.getElem?_cons_zero]; rfl
      intro K hK
      go_simp
      refine hK.out _ _ (keep_four ((Ext.refl _).alloc _) hHeld) (fun hHeld => ?_)
      clear hK K
      try simp only [Act.put, List.setIfInBounds_toArray, List.set_cons_zero, List.set_cons_succ]
      refine wpAnyH_ready (rs := [9]) (by kernel_rfl) (by simp) ?_
      refine AllReadyH.cons (o := ?oie9) (ho := ?hie9) (h := ?hhe9) (hs := AllReadyH.nil)
      case hie9 => simp only [List.getElem?_toArray, List.getElem?_cons_succ, List.getElem?_cons_zero]; rfl
      intro K hK
      go_simp
      refine (vec_join g h G H _ (HG.out.ext (((Ext.refl _).drewN 1).alloc _)) (HH.out.ext (((Ext.refl _).drewN 1).alloc _))).mono ?_
      rintro e w5 ⟨k, rfl, hk, hnk, g5⟩
      have hk2 := hk
      obtain ⟨pk, ck, rfl, _⟩ := hk2
      go_wp2_with fail
      have hHeldC := hHeld
      refine hK.out _ _ (keep_four g5 hHeld) (fun hHeld => ?_)
      clear hK K
      try simp only [Act.put, List.setIfInBounds_toArray, List.set_cons_zero, List.set_cons_succ]
      refine wpAnyH_take (i := 10) (oi := ?oie10) (v := ?ve10) (hi := ?hie10) (hs := ?hse10) (hf := ?hfe10) (hr := ?hre10) (hQ := fun _ _ _ h => h) (hy := ?hye10) (hS := hHeld) (h := ?hhe10)
      case hie10 => simp only [List.getElem?_toArray, List.getElem?_cons_succ, List.getElem?_cons_zero]; rfl
      case hse10 => kernel_rfl
      case hfe10 => kernel_rfl
      case hre10 => kernel_rfl
      case hye10 => refine Or.inl ⟨by rfl, ?_⟩; intro w hSw; (try dsimp only at hSw); go_simp; first | done | with_reducible rfl
      try simp only [Act.put, List.setIfInBounds_toArray, List.set_cons_zero, List.set_cons_succ]
      have hth := there_ext (there_cells (w3.drewN 1) #[.int .i64 0, .int .i64 0, .int .i64 0, .int .i64 0, .int .i64 0, .int .i64 0, .int .i64 0, .int .i64 0, .int .i64 0, .int .i64 0, .int .i64 0, .int .i64 0, .int .i64 0, .int .i64 0, .int .i64 0, .int .i64 0, .int .i64 0, .int .i64 0, .int .i64 0, .int .i64 0, .int .i64 0, .int .i64 0, .int .i64 0, .int .i64 0, .int .i64 0, .int .i64 0, .int .i64 0, .int .i64 0, .int .i64 0, .int .i64 0, .int .i64 0, .int .i64 0, .int .i64 0, .int .i64 0, .int .i64 0, .int .i64 0, .int .i64 0, .int .i64 0, .int .i64 0, .int .i64 0, .int .i64 0, .int .i64 0, .int .i64 0, .int .i64 0, .slice none 0 0] rfl 28 (sumAt x y 0 0 0) (.slice pk (Vec.joinL G H).length ck)) g5
      refine wpAnyH_ready (rs := [12]) (by kernel_rfl) (by simp) ?_
      refine AllReadyH.cons (o := ?oie12) (ho := ?hie12) (h := ?hhe12) (hs := AllReadyH.nil)
      case hie12 => simp only [List.getElem?_toArray, List.getElem?_cons_succ, List.getElem?_cons_zero]; rfl
      intro K hK
      rw [if_pos (by rfl)]
      refine wp_store_mid 28 (.tmp 5) (.tmp 18) rfl (w3.drewN 1).heap.size 0 (tallyCells (sumAt x y 0 0 0) (.slice pk (Vec.joinL G H).length ck)).toArray rfl rfl hth (info_cellsA _ _) (all_oneCell_toArray (tallyCells_one hk)) ?_
      refine hK.out _ _ (keep_four (Ext.setCells _ (Nat.le_refl _) _ _ _ (((Ext.refl (w3.drewN 1)).alloc _).trans g5)) hS0) (fun hHeld => ?_)
      clear hK K
      try simp only [Act.put, List.setIfInBounds_toArray, List.set_cons_zero, List.set_cons_succ]
      refine wpAnyH_done (by kernel_rfl) ?_ _
      refine NoPanic.normal ?_
      go_wp2_with fail
      go_meet
      refine ⟨_, _, rfl, with_laid (there_any hth) hk (fun q n c e h0 => by have := hnk q n c e; rw [World.size_alloc] at this; intro h; rw [h] at this; exact Nat.not_succ_le_self _ this) ?_ ?_ ?_⟩
      · exact Nat.le_refl _
      · intro q n c e; have := hnk q n c e; rw [World.size_alloc] at this; exact Nat.le_of_succ_le this
      · exact (((Ext.refl _).drewN 1).alloc _).trans g5
  case rest =>
  obtain ⟨T, k, rfl, hW⟩ := hcut
  clear hS0
  have HW := Lib.hid hW
  clear hW
  go_wp2
  go_loopw [19] (fun i wr => ∃ (a : Nat), a ≤ 13 ∧ i = .int .i64 a ∧ WithAt w3 wr T (sumAt x y a a 0) k (Vec.joinL G H)) (fun i _ => 13 - (intOf i).toNat)
  case atStart => exact ⟨0, by omega, rfl, HW.out⟩
  case round =>
    obtain ⟨a, ha, rfl, hr⟩ := hrel
    by_cases hlt : a < 13
    · have HWR := Lib.hid hr
      have a1 := hr.ext.cell (CX.out (1 + a) (by omega))
      have a2 := hr.ext.cell (CY.out (1 + a) (by omega))
      have a3 := hr.num (1 + a) (by omega)
      have a4 := hr.melt (1 + a) (by omega)
      have bx := HBX.out (1 + a)
      have bb := HBY.out (1 + a)
      have i0 : (0 : Int) ≤ (a : Int) := by omega
      have i1 : (a : Int) < 13 := by omega
      clear hr
      go_upto_region 5 with fail
      refine wp_region_noPanic ?_
      go_region
      refine NoPanic.normal ?_
      have hn := HWR.out.put (1 + a) (by omega) (x (1 + a) + y (1 + a))
      rw [sumAt_put (a' := a + 1) (b' := a) (c' := 0) (by intro j; omega)] at hn
      clear a1 a2 a3 a4 bx bb HWR
      generalize (wr.setCell ⟨T, 1 + a, none⟩ (.int .i64 (x (1 + a) + y (1 + a)))).drew = w6 at *
      have HWS := Lib.hid hn
      have a1 := hn.ext.cell (CX.out (14 + a) (by omega))
      have a2 := hn.ext.cell (CY.out (14 + a) (by omega))
      have a3 := hn.num (14 + a) (by omega)
      have a4 := hn.melt (14 + a) (by omega)
      have bx := HBX.out (14 + a)
      have bb := HBY.out (14 + a)
      clear hn
      go_upto_region 6 with fail
      refine wp_region_noPanic ?_
      go_region
      refine NoPanic.normal ?_
      have hn := HWS.out.put (14 + a) (by omega) (x (14 + a) + y (14 + a))
      rw [sumAt_put (a' := a + 1) (b' := a + 1) (c' := 0) (by intro j; omega)] at hn
      clear a1 a2 a3 a4 bx bb HWS
      have HWT := Lib.hid hn
      clear hn
      go_wp2
      go_roundw
      case rel => exact ⟨a + 1, by omega, by go_num, HWT.out⟩
      case measure => simp [intOf]; omega
    · obtain rfl : a = 13 := by omega
      have e13 : ((13 : Nat) : Int) = 13 := rfl
      rw [e13]
      have HWR := Lib.hid hr
      clear hr
      go_wp2
      go_loopw [47] (fun i wx => ∃ (a : Nat), a ≤ 17 ∧ i = .int .i64 a ∧ WithAt w3 wx T (sumAt x y 13 13 a) k (Vec.joinL G H)) (fun i _ => 17 - (intOf i).toNat)
      case atStart => exact ⟨0, by omega, rfl, HWR.out⟩
      case round =>
        obtain ⟨a, ha, rfl, hr⟩ := hrel
        by_cases hlt : a < 17
        · have HWS := Lib.hid hr
          have a1 := hr.ext.cell (CX.out (27 + a) (by omega))
          have a2 := hr.ext.cell (CY.out (27 + a) (by omega))
          have a3 := hr.num (27 + a) (by omega)
          have a4 := hr.melt (27 + a) (by omega)
          have bx := HBX.out (27 + a)
          have bb := HBY.out (27 + a)
          have i0 : (0 : Int) ≤ (a : Int) := by omega
          have i1 : (a : Int) < 17 := by omega
          clear hr
          go_upto_region 11 with fail
          refine wp_region_noPanic ?_
          go_region
          refine NoPanic.normal ?_
          have hn := HWS.out.put (27 + a) (by omega) (x (27 + a) + y (27 + a))
          rw [sumAt_put (a' := 13) (b' := 13) (c' := a + 1) (by intro j; omega)] at hn
          clear a1 a2 a3 a4 bx bb HWS
          have HWT := Lib.hid hn
          clear hn
          go_wp2
          go_roundw
          case rel => exact ⟨a + 1, by omega, by go_num, HWT.out⟩
          case measure => simp [intOf]; omega
        · obtain rfl : a = 17 := by omega
          have e17 : ((17 : Nat) : Int) = 17 := rfl
          rw [e17]
          have hrg := hr.range
          rw [sumAt_full] at hrg
          have hth := there_ext HR.out hr.ext
          have hth2 : wr.there (w.heap.size + 1 + 1) 0 (tallyCells (fun j => x j + y j) k).toArray.size := by
            rw [show (tallyCells (fun j => x j + y j) k).toArray.size = 45 by simp [tallyCells_length]]; exact hth
          have hone := all_oneCell_toArray (tallyCells_one (x := fun j => x j + y j) hr.dots)
          have hsame := World.rangeAt_setCells_same wr (w.heap.size + 1 + 1) 0 (tallyCells (fun j => x j + y j) k) (by rw [tallyCells_length]; exact hth)
          have HD := Lib.hid (hr.dots.setCells (B := w.heap.size + 1 + 1) (o := 0) (vs := tallyCells (fun j => x j + y j) k) (fun q n c e h0 => by have := hr.newk q n c e; have := HS3.out; omega))
          have HX := Lib.hid (HE.out.trans hr.ext)
          clear hr hth
          go_wp2_with (first | ((with_reducible refine load_mid_at 28 5 T 0 (tallyCells (fun j => x j + y j) k) _ ?_ hrg Try.underlying28 ?_ (info_cells _ _) ?_); rfl; rfl; skip) | ((with_reducible refine store_mid_at 28 4 63 (w.heap.size + 1 + 1) 0 (tallyCells (fun j => x j + y j) k).toArray ?_ ?_ hth2 (info_cellsA _ _) hone ?_); rfl; rfl; skip))
          refine bodyPost_ret (results_cell (cs := tallyCells (fun j => x j + y j) k) rfl _ (w.heap.size + 1 + 1) 0 rfl _ hsame Try.underlying28 rfl (info_cells _ _)) rfl ?_
          exact ⟨k, rfl, HD.out, Ext.setCells _ (by omega) _ _ _ HX.out⟩

end Go.Proofs.Ytmdeepdediafbaa
