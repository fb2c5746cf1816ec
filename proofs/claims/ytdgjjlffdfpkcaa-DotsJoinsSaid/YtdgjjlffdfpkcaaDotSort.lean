/- What slices.SortFunc makes of dots, by the program's comparison. -/
import Derived.Test.YtdgjjlffdfpkcaaDotsCompare
import Derived.Test.YtdgjjlffdfpkcaaInsert
import Derived.Test.YtdgjjlffdfpkcaaSetCheck
import Derived.Test.YtdgjjlffdfpkcaaDotAppend
import Derived.Shelf.SlSortCmp.NoneTotal
namespace Go.Proofs.Ytdgjjlffdfpkcaa
open Go.Shelf Go.RowKit Go.Lib Go.Sort
def Try.sortDot_ren : Go.Shelf.Ren := ⟨fun | 6 => 45 | 15 => 62 | 14 => 61 | 28 => 80 | 29 => 81 | 20 => 72 | 21 => 73 | 22 => 74 | 23 => 75 | 24 => 76 | 25 => 77 | 26 => 78 | 27 => 79 | 46 => 85 | 47 => 86 | 48 => 87 | 49 => 88 | 50 => 89 | 57 => 91 | n => n, fun | 22 => 22 | 24 => 26 | 25 => 54 | 3 => 3 | 39 => 79 | 0 => 0 | 53 => 99 | 55 => 101 | 4 => 4 | 46 => 93 | 45 => 92 | 50 => 58 | 5 => 5 | 9 => 9 | 66 => 104 | 70 => 108 | 76 => 111 | 77 => 112 | n => n, fun | n => n⟩
theorem Try.sortDot : Go.Proofs.SlLaysF0.n6 Try.prog Try.sortDot_ren := {
  mixed := by kernel_rfl,
  f6 := ⟨Try.f45.name, by decide, Try.func45.trans (congrArg some (by kernel_rfl))⟩,
  f14 := ⟨Try.f61.name, by decide, Try.func61.trans (congrArg some (by kernel_rfl))⟩,
  f15 := Try.func62.trans (congrArg some (by kernel_rfl)),
  f20 := ⟨Try.f72.name, by decide, Try.func72.trans (congrArg some (by kernel_rfl))⟩,
  f21 := ⟨Try.f73.name, by decide, Try.func73.trans (congrArg some (by kernel_rfl))⟩,
  f22 := ⟨Try.f74.name, by decide, Try.func74.trans (congrArg some (by kernel_rfl))⟩,
  f23 := ⟨Try.f75.name, by decide, Try.func75.trans (congrArg some (by kernel_rfl))⟩,
  f24 := ⟨Try.f76.name, by decide, Try.func76.trans (congrArg some (by kernel_rfl))⟩,
  f25 := ⟨Try.f77.name, by decide, Try.func77.trans (congrArg some (by kernel_rfl))⟩,
  f26 := ⟨Try.f78.name, by decide, Try.func78.trans (congrArg some (by kernel_rfl))⟩,
  f27 := ⟨Try.f79.name, by decide, Try.func79.trans (congrArg some (by kernel_rfl))⟩,
  f28 := Try.func80.trans (congrArg some (by kernel_rfl)),
  f29 := Try.func81.trans (congrArg some (by kernel_rfl)),
  f46 := ⟨Try.f85.name, by decide, Try.func85.trans (congrArg some (by kernel_rfl))⟩,
  f47 := Try.func86.trans (congrArg some (by kernel_rfl)),
  f48 := Try.func87.trans (congrArg some (by kernel_rfl)),
  f49 := ⟨Try.f88.name, by decide, Try.func88.trans (congrArg some (by kernel_rfl))⟩,
  f50 := ⟨Try.f89.name, by decide, Try.func89.trans (congrArg some (by kernel_rfl))⟩,
  f57 := ⟨Try.f91.name, by decide, Try.func91.trans (congrArg some (by kernel_rfl))⟩,
  t0 := Try.underlying0,
  a0 := Try.isAgg0,
  z0 := Try.sizeOf0,
  v0 := Try.zeroValue0,
  t3 := Try.underlying3,
  a3 := Try.isAgg3,
  z3 := Try.sizeOf3,
  v3 := Try.zeroValue3,
  t4 := Try.underlying4,
  a4 := Try.isAgg4,
  z4 := Try.sizeOf4,
  v4 := Try.zeroValue4,
  t5 := Try.underlying5,
  a5 := Try.isAgg5,
  z5 := Try.sizeOf5,
  v5 := Try.zeroValue5,
  t9 := Try.underlying9,
  a9 := Try.isAgg9,
  z9 := Try.sizeOf9,
  v9 := Try.zeroValue9,
  t22 := Try.underlying22,
  a22 := Try.isAgg22,
  z22 := Try.sizeOf22,
  v22 := Try.zeroValue22,
  t25 := Try.underlying54,
  a25 := Try.isAgg54,
  z25 := Try.sizeOf54,
  v25 := Try.zeroValue54,
  t39 := Try.underlying79,
  a39 := Try.isAgg79,
  z39 := Try.sizeOf79,
  v39 := Try.zeroValue79,
  t45 := Try.underlying92,
  a45 := Try.isAgg92,
  z45 := Try.sizeOf92,
  v45 := Try.zeroValue92,
  t46 := Try.underlying93,
  a46 := Try.isAgg93,
  z46 := Try.sizeOf93,
  v46 := Try.zeroValue93,
  t50 := Try.underlying58,
  a50 := Try.isAgg58,
  z50 := Try.sizeOf58,
  v50 := Try.zeroValue58,
  t53 := Try.underlying99,
  a53 := Try.isAgg99,
  z53 := Try.sizeOf99,
  v53 := Try.zeroValue99,
  t55 := Try.underlying101,
  a55 := Try.isAgg101,
  z55 := Try.sizeOf101,
  v55 := Try.zeroValue101,
  t66 := Try.underlying104,
  a66 := Try.isAgg104,
  z66 := Try.sizeOf104,
  v66 := Try.zeroValue104,
  t70 := Try.underlying108,
  a70 := Try.isAgg108,
  z70 := Try.sizeOf108,
  v70 := Try.zeroValue108,
  t76 := Try.underlying111,
  a76 := Try.isAgg111,
  z76 := Try.sizeOf111,
  v76 := Try.zeroValue111,
  t77 := Try.underlying112,
  a77 := Try.isAgg112,
  z77 := Try.sizeOf112,
  v77 := Try.zeroValue112
}

/-- compare lays blocks, and draws: nothing else. -/
def GrowsTo (w w' : World) : Prop := ∃ q os, w' = grow (w.drewN q) os
set_option maxRecDepth 100000 in
set_option maxHeartbeats 1000000 in
theorem compare_grows (a b : Dot) (w : World) :
    Calls Try.prog 28 #[dotV a, dotV b] w fun e w' => e = .returned (.int .i64 (cmpD a b)) ∧ ∃ q os, w' = grow (w.drewN q) os := by
  unfold dotV cmpD
  obtain ⟨a1, a2⟩ := a
  obtain ⟨b1, b2⟩ := b
  simp only
  generalize hx : cmpI a1 b1 = x
  generalize hy : cmpI a2 b2 = y
  obtain ⟨r, hr⟩ : ∃ r, (if x = 0 then y else x) = r := ⟨_, rfl⟩
  have HO := Lib.hid (cmp_or x y)
  rw [hr] at HO ⊢
  clear hr
  have HX := Lib.hid (cmp_compare a1 b1)
  have HY := Lib.hid (cmp_compare a2 b2)
  rw [hx] at HX
  rw [hy] at HY
  clear hx hy
  have hs : (w.alloc (.cells #[.int .i64 a1, .int .i64 a2] 26)).heap.size = w.heap.size + 1 := World.size_alloc _ _
  have c1 : ((w.alloc (.cells #[.int .i64 a1, .int .i64 a2] 26)).alloc (.cells #[.int .i64 b1, .int .i64 b2] 26)).cell? ⟨w.heap.size, 0, none⟩ = some (.int .i64 a1) := ((Ext.refl _).alloc _).cell (alloc_cell w _ _ 0)
  have c2 : ((w.alloc (.cells #[.int .i64 a1, .int .i64 a2] 26)).alloc (.cells #[.int .i64 b1, .int .i64 b2] 26)).cell? ⟨w.heap.size, 1, none⟩ = some (.int .i64 a2) := ((Ext.refl _).alloc _).cell (alloc_cell w _ _ 1)
  have c3 : ((w.alloc (.cells #[.int .i64 a1, .int .i64 a2] 26)).alloc (.cells #[.int .i64 b1, .int .i64 b2] 26)).cell? ⟨w.heap.size + 1, 0, none⟩ = some (.int .i64 b1) := by rw [← hs]; exact alloc_cell _ _ _ 0
  have c4 : ((w.alloc (.cells #[.int .i64 a1, .int .i64 a2] 26)).alloc (.cells #[.int .i64 b1, .int .i64 b2] 26)).cell? ⟨w.heap.size + 1, 1, none⟩ = some (.int .i64 b2) := by rw [← hs]; exact alloc_cell _ _ _ 1
  have hE : ∃ q os, (w.alloc (.cells #[.int .i64 a1, .int .i64 a2] 26)).alloc (.cells #[.int .i64 b1, .int .i64 b2] 26) = grow (w.drewN q) os := ⟨0, _, by rw [alloc_eq_grow, alloc_eq_grow, grow_grow]; rfl⟩
  go_enter Try.func28, Try.ntmps28
  go_wp2_with fail
  generalize (w.alloc (.cells #[.int .i64 a1, .int .i64 a2] 26)).alloc (.cells #[.int .i64 b1, .int .i64 b2] 26) = w2 at *
  refine wp_region_noPanic ?_
  go_region_held3 (fun w' => w'.cell? ⟨w.heap.size, 0, none⟩ = some (.int .i64 a1) ∧ w'.cell? ⟨w.heap.size, 1, none⟩ = some (.int .i64 a2) ∧ w'.cell? ⟨w.heap.size + 1, 0, none⟩ = some (.int .i64 b1) ∧ w'.cell? ⟨w.heap.size + 1, 1, none⟩ = some (.int .i64 b2))
    (first | exact ⟨c1, c2, c3, c4⟩ | assumption | exact keep_quad ((Ext.refl _).alloc _) ‹_ ∧ _ ∧ _ ∧ _›)
    (first | (go_at_call 49; refine (HO.out _ _ ?_ ?_).mono ?_; (exact alloc_cell _ _ _ 0); (exact alloc_cell _ _ _ 1); rintro e w' ⟨rfl, rfl⟩) | (go_at_call_of 50 (Value.int IntKind.i64 a1); refine (HX.out _).mono ?_; rintro e w' ⟨rfl, rfl⟩) | (go_at_call_of 50 (Value.int IntKind.i64 a2); refine (HY.out _).mono ?_; rintro e w' ⟨rfl, rfl⟩))
  all_goals
    refine NoPanic.normal ?_
    go_wp2
    go_ret
    obtain ⟨q, os, rfl⟩ := hE
    exact ⟨rfl, q + 1, _, by rw [alloc_eq_grow, grow_grow]; rfl⟩

def encDot (d : Dot) : List Value := [.int .i64 d.1, .int .i64 d.2]
theorem ltD (a b : Dot) : ltOf cmpD a b = decide (DS.lt a b) := by
  unfold ltOf
  rw [decide_eq_decide]
  exact DS.cmpD_lt a b
theorem swoD : SWO (ltOf cmpD) where
  irrefl x := by rw [ltD]; exact decide_eq_false (DS.lt_irrefl _)
  trans x y z h1 h2 := by rw [ltD] at *; exact decide_eq_true (DS.lt_trans (of_decide_eq_true h1) (of_decide_eq_true h2))
  ntrans x y z h1 h2 := by
    rw [ltD] at *
    have h1 := of_decide_eq_false h1
    have h2 := of_decide_eq_false h2
    refine decide_eq_false ?_
    unfold DS.lt at *
    omega

theorem flat_at (M : List Dot) (t : Nat) (h : t < M.length * 2) : (flatK encDot 2 M.toArray)[t]? = (dotCells M)[t]? := by
  have h1 : t / 2 < M.length := by omega
  have h2 : t % 2 < 2 := Nat.mod_lt _ (by omega)
  have e := dotCells_pos M (t / 2) (t % 2) h1 h2
  rw [show t / 2 * 2 + t % 2 = t by omega] at e
  have hs : t < (flatK encDot 2 M.toArray).size := by rw [size_flatK]; exact h
  rw [e, Array.getElem?_eq_getElem hs, ← getElem!_pos _ t hs, get_flatK _ _ _ _ h, getElem!_pos M.toArray (t / 2) h1]
  have h3 : t % 2 = 0 ∨ t % 2 = 1 := by omega
  rcases h3 with h3 | h3 <;> rw [h3] <;> rfl
theorem holds_row {w : World} {base g n cap : Nat} {l : List Dot} (h : w.ownsRow base 26 2 (.slice (some ⟨g, 0, none⟩) n cap) n (dotCells l)) (hn : l.length = n) : HoldsK encDot 2 w g 0 l.toArray := by
  obtain ⟨cur, hb, hg, hnc, hcm, hcs, htk⟩ := row_cells h
  intro j hj
  have hj' : j < l.length * 2 := by rw [size_flatK] at hj; exact hj
  rw [Nat.zero_add, (cell_row hg).1, (cell_row hg).2]
  refine ⟨?_, rfl⟩
  have e1 : cur[j]? = (dotCells l)[j]? := by rw [← htk, List.getElem?_take, if_pos (by omega), Array.getElem?_toList]
  rw [e1, ← flat_at l j hj', Array.getElem?_eq_getElem hj, getElem!_pos _ j hj]
  rfl
theorem row_sorted {w : World} {base g n cap q : Nat} {l M : List Dot} {os : Array Obj} (h : w.ownsRow base 26 2 (.slice (some ⟨g, 0, none⟩) n cap) n (dotCells l)) (hM : M.length = n) :
    (sortWorldK encDot 2 w g 0 q M.toArray os).ownsRow base 26 2 (.slice (some ⟨g, 0, none⟩) n cap) n (dotCells M) := by
  obtain ⟨cur, hb, hg, hnc, hcm, hcs, htk⟩ := row_cells h
  have hlt : g < w.heap.size := (Array.getElem?_eq_some_iff.1 hg).1
  have hblk : (sortWorldK encDot 2 w g 0 q M.toArray os).heap[g]? = some (.cells (putCells id 0 (flatK encDot 2 M.toArray) cur) 26 (0, 0)) := by
    unfold sortWorldK
    rw [Go.Sort.heap_grow_old _ _ (by unfold putRowK; rw [Go.Sort.size_putRow]; exact hlt)]
    show (w.heap.modify g _)[g]? = _
    rw [Array.getElem?_modify, if_pos rfl, hg]
    rfl
  refine ⟨by rw [dotCells_len, hM], .inr ⟨g, cap, _, rfl, hb, hblk, hnc, hcm, by unfold putCells; rw [Array.size_mapIdx]; exact hcs, ?_⟩⟩
  have hFs : (flatK encDot 2 M.toArray).size = n * 2 := by rw [size_flatK]; show M.length * 2 = _; rw [hM]
  apply List.ext_getElem?
  intro t
  by_cases ht : t < n * 2
  · rw [List.getElem?_take, if_pos ht, Array.getElem?_toList]
    have hc : t < cur.size := by omega
    have hp : (putCells id 0 (flatK encDot 2 M.toArray) cur)[t]? = some (flatK encDot 2 M.toArray)[t]! := by
      unfold putCells
      rw [Array.getElem?_mapIdx, Array.getElem?_eq_getElem hc, Option.map_some, if_pos (by omega), Nat.sub_zero]
      rfl
    rw [hp, ← flat_at M t (by omega), Array.getElem?_eq_getElem (by omega), getElem!_pos _ t (by omega)]
  · rw [List.getElem?_eq_none (by rw [List.length_take]; omega), List.getElem?_eq_none (by rw [dotCells_len, hM]; omega)]
theorem grown_sortWorldK {w : World} {g n : Nat} {d : Array Dot} {os : Array Obj} : w.grownBy (sortWorldK encDot 2 w g 0 n d os) (some g) := by
  refine ⟨rfl, rfl, rfl, ?_, fun k hk hne => ?_⟩
  · unfold sortWorldK putRowK; rw [size_grow, Go.Sort.size_putRow]; exact Nat.le_add_right _ _
  · have hne' : g ≠ k := fun e => hne (by rw [e])
    unfold sortWorldK
    rw [Go.Sort.heap_grow_old _ _ (by unfold putRowK; rw [Go.Sort.size_putRow]; exact hk)]
    show (w.heap.modify g _)[k]? = _
    rw [Array.getElem?_modify, if_neg hne']

set_option maxRecDepth 100000 in
/-- What SortFunc makes of dots. -/
theorem sort_dots (g cap n base : Nat) (l : List Dot) (hn : l.length = n) (hlen : n ≤ 100000) (w : World) (hrow : w.ownsRow base 26 2 (.slice (some ⟨g, 0, none⟩) n cap) n (dotCells l)) :
    Calls Try.prog 45 #[.slice (some ⟨g, 0, none⟩) n cap, .func (.func 28) #[] #[]] w fun e w' =>
      e = .returned (.tuple #[]) ∧ (∃ R : List Dot, R.length = n ∧ (∀ x, x ∈ R ↔ x ∈ l) ∧ (R.Pairwise fun a b => ¬ DS.lt b a) ∧ w'.ownsRow base 26 2 (.slice (some ⟨g, 0, none⟩) n cap) n (dotCells R)) ∧ w.grownBy w' (some g) := by
  have hH := holds_row hrow hn
  obtain ⟨cur, hb, hg, hnc, hcm, hcs, htk⟩ := row_cells hrow
  have hblk : g < w.heap.size := (Array.getElem?_eq_some_iff.1 hg).1
  have hcmp : CmpLays Try.prog 28 #[] encDot 2 cmpD g 0 l.toArray.size w := fun _ _ _ _ x y => compare_grows x y _
  have eg : ∀ args w, (callFunc 28 args).run Try.prog w = .ok (.enter 28 args) w := enters_of Try.func28 (by kernel_rfl) rfl
  have hcon := AnyQ.slices_SortFunc_total Try.sortDot 2 Try.isAgg26 Try.sizeOf26 encDot (fun _ => rfl) (fun x v hv => by simp [encDot] at hv; rcases hv with rfl | rfl <;> rfl) cmpD swoD 28 #[] g 0 cap l.toArray w eg hcmp hH hblk (by show l.length < _; omega)
    (fun x y h1 h2 => by
      rw [ltD] at h1 h2
      rcases DS.lt_tri x y with h | h | h
      · exact absurd h (of_decide_eq_false h1)
      · exact h
      · exact absurd h (of_decide_eq_false h2))
  change Calls Try.prog 45 _ _ _ at hcon
  rw [show l.toArray.size = n from hn] at hcon
  refine hcon.mono ?_
  rintro e w' ⟨rfl, q, os, rfl⟩
  have hperm : (l.mergeSort fun x y => !ltOf cmpD y x).Perm l := List.mergeSort_perm _ _
  have hsort : (l.mergeSort fun x y => !ltOf cmpD y x).Pairwise fun a b => (!ltOf cmpD b a) = true := List.pairwise_mergeSort (fun a b c h1 h2 => by
      rw [Bool.not_eq_true'] at *
      exact swoD.ntrans _ _ _ h2 h1) (fun a b => by
      cases h : ltOf cmpD b a with
      | false => rfl
      | true =>
        rw [ltD] at h
        rw [ltD, decide_eq_false (fun h2 => DS.lt_irrefl _ (DS.lt_trans (of_decide_eq_true h) h2))]
        rfl) l
  have hml : (l.mergeSort fun x y => !ltOf cmpD y x).length = n := by rw [List.length_mergeSort, hn]
  refine ⟨rfl, ⟨(l.mergeSort fun x y => !ltOf cmpD y x), hml, fun x => hperm.mem_iff, ?_, row_sorted hrow hml⟩, grown_sortWorldK⟩
  refine hsort.imp fun {a b} h => ?_
  rw [Bool.not_eq_true', ltD] at h
  exact of_decide_eq_false h
theorem sort_dots_none (p : Option Addr) (cap : Nat) (fv : Value) (w : World) :
    Calls Try.prog 45 #[.slice p 0 cap, fv] w fun e w' => e = .returned (.tuple #[]) ∧ w' = w :=
  AnyF.slices_SortFunc_none Try.sortDot p cap fv w
end Go.Proofs.Ytdgjjlffdfpkcaa
