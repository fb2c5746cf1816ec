/- How links are sorted: their comparison, and what slices.SortFunc makes of them. -/
import Derived.Test.YtcnjklbmlplehaaGraphMem
import Derived.Shelf.SlSortCmp.NoneTotal
namespace Go.Proofs.Ytcnjklbmlplehaa
open Go.Shelf Go.RowKit Go.Lib Go.Sort
def Try.sortLk_ren : Go.Shelf.Ren := ⟨fun | 6 => 25 | 15 => 41 | 14 => 40 | 28 => 55 | 29 => 56 | 20 => 47 | 21 => 48 | 22 => 49 | 23 => 50 | 24 => 51 | 25 => 52 | 26 => 53 | 27 => 54 | 46 => 60 | 47 => 61 | 48 => 62 | 49 => 63 | 50 => 64 | 57 => 66 | n => n, fun | 22 => 57 | 24 => 60 | 25 => 67 | 3 => 3 | 39 => 30 | 0 => 0 | 53 => 97 | 55 => 87 | 4 => 4 | 46 => 91 | 45 => 90 | 50 => 77 | 5 => 5 | 9 => 9 | 66 => 102 | 70 => 106 | 76 => 109 | 77 => 110 | n => n, fun | n => n⟩
theorem Try.sortLk : Go.Proofs.SlLaysF.n6 Try.prog Try.sortLk_ren := {
  mixed := by kernel_rfl,
  f6 := ⟨Try.f25.name, by decide, Try.func25.trans (congrArg some (by kernel_rfl))⟩,
  f14 := ⟨Try.f40.name, by decide, Try.func40.trans (congrArg some (by kernel_rfl))⟩,
  f15 := Try.func41.trans (congrArg some (by kernel_rfl)),
  f20 := ⟨Try.f47.name, by decide, Try.func47.trans (congrArg some (by kernel_rfl))⟩,
  f21 := ⟨Try.f48.name, by decide, Try.func48.trans (congrArg some (by kernel_rfl))⟩,
  f22 := ⟨Try.f49.name, by decide, Try.func49.trans (congrArg some (by kernel_rfl))⟩,
  f23 := ⟨Try.f50.name, by decide, Try.func50.trans (congrArg some (by kernel_rfl))⟩,
  f24 := ⟨Try.f51.name, by decide, Try.func51.trans (congrArg some (by kernel_rfl))⟩,
  f25 := ⟨Try.f52.name, by decide, Try.func52.trans (congrArg some (by kernel_rfl))⟩,
  f26 := ⟨Try.f53.name, by decide, Try.func53.trans (congrArg some (by kernel_rfl))⟩,
  f27 := ⟨Try.f54.name, by decide, Try.func54.trans (congrArg some (by kernel_rfl))⟩,
  f28 := Try.func55.trans (congrArg some (by kernel_rfl)),
  f29 := Try.func56.trans (congrArg some (by kernel_rfl)),
  f46 := ⟨Try.f60.name, by decide, Try.func60.trans (congrArg some (by kernel_rfl))⟩,
  f47 := Try.func61.trans (congrArg some (by kernel_rfl)),
  f48 := Try.func62.trans (congrArg some (by kernel_rfl)),
  f49 := ⟨Try.f63.name, by decide, Try.func63.trans (congrArg some (by kernel_rfl))⟩,
  f50 := ⟨Try.f64.name, by decide, Try.func64.trans (congrArg some (by kernel_rfl))⟩,
  f57 := ⟨Try.f66.name, by decide, Try.func66.trans (congrArg some (by kernel_rfl))⟩,
  t0 := Try.underlying0,
  a0 := Try.isAgg0,
  z0 := Try.sizeOf0,
  v0 := Try.zeroValue0,
  t3 := Try.underlying3,
  a3 := Try.isAgg3,
  z3 := Try.sizeOf3,
  v3 := Try.zeroValue3,
  t4 := Try.underlying4,
  a4 := Try.isAgg4,
  z4 := Try.sizeOf4,
  v4 := Try.zeroValue4,
  t5 := Try.underlying5,
  a5 := Try.isAgg5,
  z5 := Try.sizeOf5,
  v5 := Try.zeroValue5,
  t9 := Try.underlying9,
  a9 := Try.isAgg9,
  z9 := Try.sizeOf9,
  v9 := Try.zeroValue9,
  t22 := Try.underlying57,
  a22 := Try.isAgg57,
  z22 := Try.sizeOf57,
  v22 := Try.zeroValue57,
  a24 := Try.isAgg60,
  z24 := Try.sizeOf60,
  t25 := Try.underlying67,
  a25 := Try.isAgg67,
  z25 := Try.sizeOf67,
  v25 := Try.zeroValue67,
  t39 := Try.underlying30,
  a39 := Try.isAgg30,
  z39 := Try.sizeOf30,
  v39 := Try.zeroValue30,
  t45 := Try.underlying90,
  a45 := Try.isAgg90,
  z45 := Try.sizeOf90,
  v45 := Try.zeroValue90,
  t46 := Try.underlying91,
  a46 := Try.isAgg91,
  z46 := Try.sizeOf91,
  v46 := Try.zeroValue91,
  t50 := Try.underlying77,
  a50 := Try.isAgg77,
  z50 := Try.sizeOf77,
  v50 := Try.zeroValue77,
  t53 := Try.underlying97,
  a53 := Try.isAgg97,
  z53 := Try.sizeOf97,
  v53 := Try.zeroValue97,
  t55 := Try.underlying87,
  a55 := Try.isAgg87,
  z55 := Try.sizeOf87,
  v55 := Try.zeroValue87,
  t66 := Try.underlying102,
  a66 := Try.isAgg102,
  z66 := Try.sizeOf102,
  v66 := Try.zeroValue102,
  t70 := Try.underlying106,
  a70 := Try.isAgg106,
  z70 := Try.sizeOf106,
  v70 := Try.zeroValue106,
  t76 := Try.underlying109,
  a76 := Try.isAgg109,
  z76 := Try.sizeOf109,
  v76 := Try.zeroValue109,
  t77 := Try.underlying110,
  a77 := Try.isAgg110,
  z77 := Try.sizeOf110,
  v77 := Try.zeroValue110
}

/-- How two numbers stand. -/
def cmpI (x y : Int) : Int := if x < y then -1 else if y < x then 1 else 0
theorem cmpI_range (x y : Int) : cmpI x y = -1 ∨ cmpI x y = 0 ∨ cmpI x y = 1 := by
  unfold cmpI
  split
  · exact .inl rfl
  · split
    · exact .inr (.inr rfl)
    · exact .inr (.inl rfl)

set_option maxRecDepth 100000 in
theorem cmp_or (x y : Int) (g : Nat) (w : World) (h0 : w.cell? ⟨g, 0, none⟩ = some (.int .i64 x)) (h1 : w.cell? ⟨g, 1, none⟩ = some (.int .i64 y)) :
    Calls Try.prog 27 #[.slice (some ⟨g, 0, none⟩) 2 2] w fun e w' => e = .returned (.int .i64 (if x = 0 then y else x)) ∧ w = w' := by
  by_cases hx : x = 0
  · rw [if_pos hx]
    have d1 : (x != 0) = false := by rw [bne_eq_false_iff_eq]; exact hx
    by_cases hy : y = 0
    · have d2 : (y != 0) = false := by rw [bne_eq_false_iff_eq]; exact hy
      subst hx hy
      go_enter Try.func27, Try.ntmps27
      go_wp2
      refine wp_loop_rounds 3 ?_
      rw [rounds_succ]
      go_wp2
      rw [rounds_succ]
      go_wp2
      rw [rounds_succ]
      go_wp2
      go_ret
      exact ⟨rfl, rfl⟩
    · have d2 : (y != 0) = true := by rw [bne_iff_ne]; exact hy
      subst hx
      clear hy
      go_enter Try.func27, Try.ntmps27
      go_wp2
      refine wp_loop_rounds 3 ?_
      rw [rounds_succ]
      go_wp2
      rw [rounds_succ]
      go_wp2
      go_ret
      exact ⟨rfl, rfl⟩
  · rw [if_neg hx]
    have d1 : (x != 0) = true := by rw [bne_iff_ne]; exact hx
    clear hx
    go_enter Try.func27, Try.ntmps27
    go_wp2
    refine wp_loop_rounds 3 ?_
    rw [rounds_succ]
    go_wp2
    go_ret
    exact ⟨rfl, rfl⟩


def ordI : Ordering → Int
  | .lt => -1
  | .eq => 0
  | .gt => 1

set_option maxRecDepth 100000 in
theorem cmp_isNaN_f (x : Nat) (hx : FloatKind.f64.format.order x x = some .eq) (w : World) : Calls Try.prog 42 #[.float .f64 x] w fun e w' => e = .returned (.bool false) ∧ w = w' := by
  go_enter Try.func42, Try.ntmps42
  go_wp2
  go_ret
  exact ⟨rfl, rfl⟩

set_option maxRecDepth 100000 in
theorem cmp_compare_f (x y : Nat) (o : Ordering) (hx : FloatKind.f64.format.order x x = some .eq) (hy : FloatKind.f64.format.order y y = some .eq) (h : FloatKind.f64.format.order x y = some o) (w : World) :
    Calls Try.prog 28 #[.float .f64 x, .float .f64 y] w fun e w' => e = .returned (.int .i64 (ordI o)) ∧ w = w' := by
  have HX := Lib.hid (cmp_isNaN_f x hx)
  have HY := Lib.hid (cmp_isNaN_f y hy)
  clear hx hy
  cases o with
  | lt =>
    go_enter Try.func28, Try.ntmps28
    go_wp2_with (go_at_call 42; first | (refine (HX.out _).mono ?_; rintro e w' ⟨rfl, rfl⟩) | (refine (HY.out _).mono ?_; rintro e w' ⟨rfl, rfl⟩))
    go_ret
    exact ⟨rfl, rfl⟩
  | eq =>
    go_enter Try.func28, Try.ntmps28
    go_wp2_with (go_at_call 42; first | (refine (HX.out _).mono ?_; rintro e w' ⟨rfl, rfl⟩) | (refine (HY.out _).mono ?_; rintro e w' ⟨rfl, rfl⟩))
    go_ret
    exact ⟨rfl, rfl⟩
  | gt =>
    go_enter Try.func28, Try.ntmps28
    go_wp2_with (go_at_call 42; first | (refine (HX.out _).mono ?_; rintro e w' ⟨rfl, rfl⟩) | (refine (HY.out _).mono ?_; rintro e w' ⟨rfl, rfl⟩))
    go_ret
    exact ⟨rfl, rfl⟩

/-- How two links stand: by their lower peers, then by their higher ones. -/
def cmpL (a b : GR.Lk) : Int := if ordI (ordOf a.1 b.1) = 0 then ordI (ordOf a.2 b.2) else ordI (ordOf a.1 b.1)
theorem ordI_of (a b : Nat) : (a < b ∧ ordI (ordOf a b) = -1) ∨ (a = b ∧ ordI (ordOf a b) = 0) ∨ (b < a ∧ ordI (ordOf a b) = 1) := by
  unfold ordOf
  rcases Nat.lt_trichotomy a b with h | h | h
  · rw [if_pos h]; exact .inl ⟨h, rfl⟩
  · rw [if_neg (by omega), if_pos h]; exact .inr (.inl ⟨h, rfl⟩)
  · rw [if_neg (by omega), if_neg (by omega)]; exact .inr (.inr ⟨h, rfl⟩)
theorem cmpL_lt (a b : GR.Lk) : cmpL a b < 0 ↔ GR.ltL a b := by
  have h1 := ordI_of a.1 b.1
  have h2 := ordI_of a.2 b.2
  unfold cmpL GR.ltL
  split <;> omega

set_option maxRecDepth 100000 in
set_option maxHeartbeats 1000000 in
theorem new_closure (a b : GR.Lk) (ha : Sm a) (hb : Sm b) (w : World) :
    Calls Try.prog 26 #[cz a, cz b] w fun e w' => e = .returned (.int .i64 (cmpL a b)) ∧ ∃ o, w' = w.alloc o := by
  unfold cmpL cz
  have HC1 := Lib.hid (cmp_compare_f (fb a.1) (fb b.1) _ ((fb_order ha.1 ha.1).trans (by unfold ordOf; simp)) ((fb_order hb.1 hb.1).trans (by unfold ordOf; simp)) (fb_order ha.1 hb.1))
  have HC2 := Lib.hid (cmp_compare_f (fb a.2) (fb b.2) _ ((fb_order ha.2 ha.2).trans (by unfold ordOf; simp)) ((fb_order hb.2 hb.2).trans (by unfold ordOf; simp)) (fb_order ha.2 hb.2))
  generalize fb a.1 = x1 at *
  generalize fb a.2 = x2 at *
  generalize fb b.1 = y1 at *
  generalize fb b.2 = y2 at *
  generalize ordI (ordOf a.1 b.1) = c1 at *
  generalize ordI (ordOf a.2 b.2) = c2 at *
  obtain ⟨r, hr⟩ : ∃ r, (if c1 = 0 then c2 else c1) = r := ⟨_, rfl⟩
  have HO := Lib.hid (cmp_or c1 c2)
  rw [hr] at HO ⊢
  have tok1 : True := trivial
  clear hr ha hb
  go_enter Try.func26, Try.ntmps26
  go_wp2_with fail
  refine (HC1.out _).mono ?_
  rintro e w1 ⟨rfl, rfl⟩
  go_wp2_with fail
  refine (HC2.out _).mono ?_
  rintro e w1 ⟨rfl, rfl⟩
  go_wp2_with fail
  refine (HO.out _ _ (alloc_cell _ _ _ 0) (alloc_cell _ _ _ 1)).mono ?_
  rintro e w1 ⟨rfl, rfl⟩
  go_wp2
  go_ret
  exact ⟨rfl, _, rfl⟩

theorem grown_sortWorld {α : Type} [Inhabited α] (enc : α → Value) (w : World) (blk off n : Nat) (d : Array α) (os : Array Obj) : w.grownBy (sortWorld enc w blk off n d os) (some blk) := by
  refine ⟨rfl, rfl, rfl, ?_, fun k hk hne => ?_⟩
  · unfold sortWorld; rw [size_grow, size_putRow]; exact Nat.le_add_right _ _
  · have hne' : blk ≠ k := fun e => hne (by rw [e])
    unfold sortWorld
    rw [heap_grow_old _ _ (by rw [size_putRow]; exact hk)]
    show (w.heap.modify blk _)[k]? = _
    rw [Array.getElem?_modify, if_neg hne']


abbrev SLk := {z : GR.Lk // Sm z}
instance : Inhabited SLk := ⟨⟨(0, 0), by unfold Sm; simp⟩⟩
def encL (z : SLk) : Value := cz z.1
def cfL (a b : SLk) : Int := cmpL a.1 b.1
theorem ltC (a b : SLk) : ltOf cfL a b = decide (GR.ltL a.1 b.1) := by
  unfold ltOf cfL
  rw [decide_eq_decide]
  exact cmpL_lt _ _
theorem swoC : SWO (ltOf cfL) where
  irrefl x := by rw [ltC]; exact decide_eq_false (GR.ltL_irrefl _)
  trans x y z h1 h2 := by rw [ltC] at *; exact decide_eq_true (GR.ltL_trans _ _ _ (of_decide_eq_true h1) (of_decide_eq_true h2))
  ntrans x y z h1 h2 := by
    rw [ltC] at *
    have h1 := of_decide_eq_false h1
    have h2 := of_decide_eq_false h2
    refine decide_eq_false ?_
    unfold GR.ltL at *
    omega

set_option maxRecDepth 100000 in
/-- What SortFunc makes of links. -/
theorem sort_lks (g cap base : Nat) (l : List GR.Lk) (hsm : ∀ z ∈ l, Sm z) (hlen : l.length ≤ 100000) (w : World) (hrow : w.ownsRow base 60 1 (.slice (some ⟨g, 0, none⟩) l.length cap) l.length (lkCells l)) :
    Calls Try.prog 25 #[.slice (some ⟨g, 0, none⟩) l.length cap, .func (.func 26) #[] #[]] w fun e w' =>
      e = .returned (.tuple #[]) ∧ (∃ R : List GR.Lk, R.Perm l ∧ (R.Pairwise fun a b => ¬ GR.ltL b a) ∧ LksAt w' g 0 R) ∧ w.grownBy w' (some g) := by
  obtain ⟨d, hd⟩ : ∃ d : List SLk, d.map Subtype.val = l := ⟨l.attachWith _ hsm, by first | exact List.attachWith_map_subtype_val .. | exact List.attachWith_map_val .. | (simp; exact List.attach_map_subtype_val l)⟩
  have hdl : d.length = l.length := by rw [← hd, List.length_map]
  rcases hrow.2 with ⟨hv, _⟩ | ⟨g', cap', cur, hv, hb, hg, hn, hc, hs, hx⟩
  · cases hv
  injection hv with e1 e2 e3
  injection e1 with e1
  injection e1 with e1
  subst e1 e3
  have hH : Holds encL w g 0 d.toArray := by
    intro j hj
    have hj' : j < d.length := hj
    have k1 := hrow.cellAt j (by omega)
    rw [Nat.zero_add, k1]
    refine ⟨?_, ?_⟩
    · unfold lkCells
      rw [← hd, List.map_map, List.getElem?_map, List.getElem?_eq_getElem hj', getElem!_pos d.toArray j hj]
      rfl
    · simp [World.frozen?, hg]
  have hblk : g < w.heap.size := (Array.getElem?_eq_some_iff.1 hg).1
  have hcmp : CmpLays1 Try.prog 26 #[] encL cfL g 0 d.toArray.size w := by
    intro m os dk _ x y
    refine (new_closure x.1 y.1 x.2 y.2 _).mono ?_
    rintro e w' ⟨rfl, o, rfl⟩
    exact ⟨rfl, 0, #[o], alloc_eq_grow _ _⟩
  have eg : ∀ args w, (callFunc 26 args).run Try.prog w = .ok (.enter 26 args) w := enters_of Try.func26 (by kernel_rfl) rfl
  have hcon := Any.slices_SortFunc_total Try.sortLk encL (fun _ => rfl) cfL swoC 26 #[] g 0 cap d.toArray w eg hcmp hH hblk (by show d.length < _; omega)
    (fun x y h1 h2 => Subtype.ext (by
      rw [ltC] at h1 h2
      rcases GR.ltL_tri x.1 y.1 with h | h | h
      · exact absurd h (of_decide_eq_false h1)
      · exact h
      · exact absurd h (of_decide_eq_false h2)))
  change Calls Try.prog 25 _ _ _ at hcon
  rw [show d.toArray.size = l.length from hdl] at hcon
  refine hcon.mono ?_
  rintro e w' ⟨rfl, q, os, rfl⟩
  refine ⟨rfl, ?_, grown_sortWorld _ _ _ _ _ _ _⟩
  have hS := holds_sortWorld encL w g 0 q d.toArray (d.mergeSort fun x y => !ltOf cfL y x).toArray os hblk hH (by show (d.mergeSort _).length = d.length; exact List.length_mergeSort _)
  have hperm : (d.mergeSort fun x y => !ltOf cfL y x).Perm d := List.mergeSort_perm _ _
  have hsort : (d.mergeSort fun x y => !ltOf cfL y x).Pairwise fun a b => (!ltOf cfL b a) = true := List.pairwise_mergeSort (fun a b c h1 h2 => by
      rw [Bool.not_eq_true'] at *
      exact swoC.ntrans _ _ _ h2 h1) (fun a b => by
      cases h : ltOf cfL b a with
      | false => rfl
      | true =>
        rw [ltC] at h
        rw [ltC, decide_eq_false (fun h2 => GR.ltL_irrefl _ (GR.ltL_trans _ _ _ (of_decide_eq_true h) h2))]
        rfl) d
  show ∃ R : List GR.Lk, _
  generalize (d.mergeSort fun x y => !ltOf cfL y x) = M at *
  refine ⟨M.map Subtype.val, ?_, ?_, fun i hi => ?_⟩
  · rw [← hd]; exact hperm.map _
  · rw [List.pairwise_map]
    refine hsort.imp fun {a b} h => ?_
    rw [Bool.not_eq_true', ltC] at h
    exact of_decide_eq_false h
  · have hi' : i < M.length := by rw [List.length_map] at hi; exact hi
    have hj : i < M.toArray.size := hi'
    rw [Nat.zero_add]
    have hs1 := (hS i hj).1
    rw [Nat.zero_add, getElem!_pos M.toArray i hj] at hs1
    rw [hs1, List.getElem_map]
    rfl
theorem sort_lks_none (p : Option Addr) (cap : Nat) (fv : Value) (w : World) :
    Calls Try.prog 25 #[.slice p 0 cap, fv] w fun e w' => e = .returned (.tuple #[]) ∧ w' = w :=
  AnyF.slices_SortFunc_none (L := { Try.sortLk with }) p cap fv w
end Go.Proofs.Ytcnjklbmlplehaa
