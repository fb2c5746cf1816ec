/- How the busy peers are sorted: the comparison of two peers, and what slices.SortFunc makes of them. -/
import Derived.Test.YtmdeepdediafbaaBusyRef
import Derived.Shelf.SlSortCmp.NoneTotal
import Derived.Maps.OwnOps
import Derived.Maps.OwnSet
namespace Go.Proofs.Ytmdeepdediafbaa
open Go.Shelf Go.RowKit Go.Lib Go.Sort Go.Maps
def Try.sortInt_ren : Go.Shelf.Ren := ⟨fun | 6 => 23 | 15 => 36 | 14 => 35 | 28 => 52 | 29 => 53 | 20 => 44 | 21 => 45 | 22 => 46 | 23 => 47 | 24 => 48 | 25 => 49 | 26 => 50 | 27 => 51 | 46 => 57 | 47 => 58 | 48 => 59 | 49 => 60 | 50 => 61 | 57 => 63 | n => n, fun | 22 => 41 | 24 => 3 | 25 => 57 | 3 => 3 | 39 => 65 | 0 => 0 | 53 => 83 | 55 => 35 | 4 => 4 | 46 => 76 | 45 => 75 | 50 => 80 | 5 => 5 | 9 => 9 | 66 => 89 | 70 => 93 | 76 => 96 | 77 => 97 | n => n, fun | n => n⟩
theorem Try.sortInt : Go.Proofs.SlLaysF.n6 Try.prog Try.sortInt_ren := {
  mixed := by kernel_rfl,
  f6 := ⟨Try.f23.name, by decide, Try.func23.trans (congrArg some (by kernel_rfl))⟩,
  f14 := ⟨Try.f35.name, by decide, Try.func35.trans (congrArg some (by kernel_rfl))⟩,
  f15 := Try.func36.trans (congrArg some (by kernel_rfl)),
  f20 := ⟨Try.f44.name, by decide, Try.func44.trans (congrArg some (by kernel_rfl))⟩,
  f21 := ⟨Try.f45.name, by decide, Try.func45.trans (congrArg some (by kernel_rfl))⟩,
  f22 := ⟨Try.f46.name, by decide, Try.func46.trans (congrArg some (by kernel_rfl))⟩,
  f23 := ⟨Try.f47.name, by decide, Try.func47.trans (congrArg some (by kernel_rfl))⟩,
  f24 := ⟨Try.f48.name, by decide, Try.func48.trans (congrArg some (by kernel_rfl))⟩,
  f25 := ⟨Try.f49.name, by decide, Try.func49.trans (congrArg some (by kernel_rfl))⟩,
  f26 := ⟨Try.f50.name, by decide, Try.func50.trans (congrArg some (by kernel_rfl))⟩,
  f27 := ⟨Try.f51.name, by decide, Try.func51.trans (congrArg some (by kernel_rfl))⟩,
  f28 := Try.func52.trans (congrArg some (by kernel_rfl)),
  f29 := Try.func53.trans (congrArg some (by kernel_rfl)),
  f46 := ⟨Try.f57.name, by decide, Try.func57.trans (congrArg some (by kernel_rfl))⟩,
  f47 := Try.func58.trans (congrArg some (by kernel_rfl)),
  f48 := Try.func59.trans (congrArg some (by kernel_rfl)),
  f49 := ⟨Try.f60.name, by decide, Try.func60.trans (congrArg some (by kernel_rfl))⟩,
  f50 := ⟨Try.f61.name, by decide, Try.func61.trans (congrArg some (by kernel_rfl))⟩,
  f57 := ⟨Try.f63.name, by decide, Try.func63.trans (congrArg some (by kernel_rfl))⟩,
  t0 := Try.underlying0,
  a0 := Try.isAgg0,
  z0 := Try.sizeOf0,
  v0 := Try.zeroValue0,
  t3 := Try.underlying3,
  a3 := Try.isAgg3,
  z3 := Try.sizeOf3,
  v3 := Try.zeroValue3,
  t4 := Try.underlying4,
  a4 := Try.isAgg4,
  z4 := Try.sizeOf4,
  v4 := Try.zeroValue4,
  t5 := Try.underlying5,
  a5 := Try.isAgg5,
  z5 := Try.sizeOf5,
  v5 := Try.zeroValue5,
  t9 := Try.underlying9,
  a9 := Try.isAgg9,
  z9 := Try.sizeOf9,
  v9 := Try.zeroValue9,
  t22 := Try.underlying41,
  a22 := Try.isAgg41,
  z22 := Try.sizeOf41,
  v22 := Try.zeroValue41,
  a24 := Try.isAgg3,
  z24 := Try.sizeOf3,
  t25 := Try.underlying57,
  a25 := Try.isAgg57,
  z25 := Try.sizeOf57,
  v25 := Try.zeroValue57,
  t39 := Try.underlying65,
  a39 := Try.isAgg65,
  z39 := Try.sizeOf65,
  v39 := Try.zeroValue65,
  t45 := Try.underlying75,
  a45 := Try.isAgg75,
  z45 := Try.sizeOf75,
  v45 := Try.zeroValue75,
  t46 := Try.underlying76,
  a46 := Try.isAgg76,
  z46 := Try.sizeOf76,
  v46 := Try.zeroValue76,
  t50 := Try.underlying80,
  a50 := Try.isAgg80,
  z50 := Try.sizeOf80,
  v50 := Try.zeroValue80,
  t53 := Try.underlying83,
  a53 := Try.isAgg83,
  z53 := Try.sizeOf83,
  v53 := Try.zeroValue83,
  t55 := Try.underlying35,
  a55 := Try.isAgg35,
  z55 := Try.sizeOf35,
  v55 := Try.zeroValue35,
  t66 := Try.underlying89,
  a66 := Try.isAgg89,
  z66 := Try.sizeOf89,
  v66 := Try.zeroValue89,
  t70 := Try.underlying93,
  a70 := Try.isAgg93,
  z70 := Try.sizeOf93,
  v70 := Try.zeroValue93,
  t76 := Try.underlying96,
  a76 := Try.isAgg96,
  z76 := Try.sizeOf96,
  v76 := Try.zeroValue96,
  t77 := Try.underlying97,
  a77 := Try.isAgg97,
  z77 := Try.sizeOf97,
  v77 := Try.zeroValue97
}

/-- A machine number. -/
abbrev N64 := {n : Int // (Lit.int .i64 n).wf = true}
instance : Inhabited N64 := ⟨⟨0, by decide⟩⟩
def encN (x : N64) : Value := .int .i64 x.1

theorem keyed_int : Keyed Try.prog 3 := int_keyed Try.underlying3
theorem zero_int (w : World) : (zeroValue 3).run Try.prog w = .ok (.int .i64 0) w := by kernel_rfl

/-- What a map of counts answers. -/
def Counts (D : DataW Unit) (ps : List Int) : Prop := ∀ x, D.atKey (.int .i64 x) (.lit (.int .i64 0)) = .lit (.int .i64 (ps.count x : Nat))
theorem Counts.is {D : DataW Unit} {ps : List Int} (h : Counts D ps) {x c : Int} (hat : D.atKey (.int .i64 x) (.lit (.int .i64 0)) = .lit (.int .i64 c)) : c = (ps.count x : Nat) := by
  rw [h x] at hat
  injection hat with hat
  injection hat with _ hat
  exact hat.symm

theorem grown_sortWorld {α : Type} [Inhabited α] (enc : α → Value) (w : World) (blk off n : Nat) (d : Array α) (os : Array Obj) : w.grownBy (sortWorld enc w blk off n d os) (some blk) := by
  refine ⟨rfl, rfl, rfl, ?_, fun k hk hne => ?_⟩
  · unfold sortWorld; rw [size_grow, size_putRow]; exact Nat.le_add_right _ _
  · have hne' : blk ≠ k := fun e => hne (by rw [e])
    unfold sortWorld
    rw [heap_grow_old _ _ (by rw [size_putRow]; exact hk)]
    show (w.heap.modify blk _)[k]? = _
    rw [Array.getElem?_modify, if_neg hne']

set_option maxRecDepth 100000 in
set_option maxHeartbeats 1000000 in
theorem busy_closure (bx bm n : Nat) (D : DataW Unit) (ps : List Int) (hD : Counts D ps) (x y : Int) (hx : (Lit.int .i64 x).wf = true) (hy : (Lit.int .i64 y).wf = true) (W : World) (hbox : W.cell? ⟨bx, 0, none⟩ = some (.map (some bm))) (hown : W.ownsMap Try.prog 3 (plainElem Try.prog 3) bm n D) :
    Calls Try.prog 24 #[.int .i64 x, .int .i64 y, .pointer (some ⟨bx, 0, none⟩)] W fun e w' => e = .returned (.int .i64 (Busy.cf ps x y)) ∧ ∃ o, w' = W.alloc o := by
  have kx := keyOf_int_mk Try.underlying3 hx
  have ky := keyOf_int_mk Try.underlying3 hy
  unfold Busy.cf
  obtain ⟨u, hu⟩ : ∃ u, cmpI (ps.count y : Nat) (ps.count x : Nat) = u := ⟨_, rfl⟩
  obtain ⟨v, hv⟩ : ∃ v, cmpI x y = v := ⟨_, rfl⟩
  have HU := Lib.hid (cmp_compare (ps.count y : Nat) (ps.count x : Nat))
  have HV := Lib.hid (cmp_compare x y)
  rw [hu] at HU ⊢
  rw [hv] at HV ⊢
  clear hu hv
  obtain ⟨r, hr⟩ : ∃ r, (if u = 0 then v else u) = r := ⟨_, rfl⟩
  have HO := Lib.hid (cmp_or u v)
  rw [hr] at HO ⊢
  clear hr
  have HD := Lib.hid hD
  have tok1 : True := trivial
  have tok2 : True := trivial
  have tok3 : True := trivial
  have tok4 : True := trivial
  clear hD hx hy
  go_enter Try.func24, Try.ntmps24
  go_wp2_with (first
    | (at_lookup; have _t := tok1; refine wpList_lookup_own_int _ rfl _ _ 54 rfl 3 3 .i64 keyed_int Try.underlying54 Try.underlying3 (zero_int _) bm n D rfl hown _ _ rfl ky ?_; intro c hat hwc; clear tok1; obtain rfl := HD.out.is hat)
    | (at_lookup; have _t := tok2; refine wpList_lookup_own_int _ rfl _ _ 54 rfl 3 3 .i64 keyed_int Try.underlying54 Try.underlying3 (zero_int _) bm n D rfl hown _ _ rfl kx ?_; intro c hat2 hwc2; clear tok2; obtain rfl := HD.out.is hat2)
    | (go_at_call 26; have _t := tok3; refine (HU.out _).mono ?_; rintro e w' ⟨rfl, rfl⟩; clear tok3)
    | (go_at_call 26; have _t := tok4; refine (HV.out _).mono ?_; rintro e w' ⟨rfl, rfl⟩; clear tok4)
    | (go_at_call 25; refine (HO.out _ _ ?_ ?_).mono ?_; (exact alloc_cell _ _ _ 0); (exact alloc_cell _ _ _ 1); rintro e w' ⟨rfl, rfl⟩))
  go_ret
  exact ⟨rfl, _, rfl⟩

def cfN (ps : List Int) (a b : N64) : Int := Busy.cf ps a.1 b.1
theorem ltN (ps : List Int) (a b : N64) : ltOf (cfN ps) a b = Busy.lt ps a.1 b.1 := rfl
theorem swoN (ps : List Int) : SWO (ltOf (cfN ps)) where
  irrefl x := by rw [ltN, Busy.lt_false]; omega
  trans x y z h1 h2 := by rw [ltN, Busy.lt_iff] at *; omega
  ntrans x y z h1 h2 := by rw [ltN, Busy.lt_false] at *; omega

set_option maxRecDepth 100000 in
theorem busy_sort (g cap bx bm n base : Nat) (D : DataW Unit) (ps l : List Int) (hwf : ∀ x ∈ l, (Lit.int .i64 x).wf = true) (hlen : l.length ≤ 60) (w : World)
    (hrow : w.ownsRow base 3 1 (.slice (some ⟨g, 0, none⟩) l.length cap) l.length (intCells l)) (hbox : w.cell? ⟨bx, 0, none⟩ = some (.map (some bm)))
    (hown : w.ownsMap Try.prog 3 (plainElem Try.prog 3) bm n D) (hD : Counts D ps) (hbx : bx < base) (hbm : bm < base) :
    Calls Try.prog 23 #[.slice (some ⟨g, 0, none⟩) l.length cap, .func (.func 24) #[] #[.pointer (some ⟨bx, 0, none⟩)]] w fun e w' =>
      e = .returned (.tuple #[]) ∧ IntsV w' (.slice (some ⟨g, 0, none⟩) l.length cap) (l.mergeSort fun x y => !Busy.lt ps y x) ∧ w.grownBy w' (some g) := by
  obtain ⟨d, hd⟩ : ∃ d : List N64, d.map Subtype.val = l := ⟨l.attachWith _ hwf, by simp⟩
  have hdl : d.length = l.length := by rw [← hd, List.length_map]
  rcases hrow.2 with ⟨hv, _⟩ | ⟨g', cap', cur, hv, hb, hg, hn, hc, hs, hx⟩
  · cases hv
  injection hv with e1 e2 e3
  injection e1 with e1
  injection e1 with e1
  subst e1 e3
  have hH : Holds encN w g 0 d.toArray := by
    intro j hj
    have hj' : j < d.length := hj
    have k1 := hrow.cellAt j (by omega)
    rw [Nat.zero_add, k1]
    refine ⟨?_, ?_⟩
    · unfold intCells
      rw [← hd, List.map_map, List.getElem?_map, List.getElem?_eq_getElem hj', getElem!_pos d.toArray j hj]
      rfl
    · simp [World.frozen?, hg]
  have hblk : g < w.heap.size := (Array.getElem?_eq_some_iff.1 hg).1
  have hcmp : CmpLays1 Try.prog 24 #[.pointer (some ⟨bx, 0, none⟩)] encN (cfN ps) g 0 d.toArray.size w := by
    intro m os dk _ x y
    have hgr := grown_sortWorld encN w g 0 m dk os
    have hown' := hown.kept hgr (by intro e; injection e with e; omega)
    have hbox' : (sortWorld encN w g 0 m dk os).cell? ⟨bx, 0, none⟩ = some (.map (some bm)) := by
      rw [World.cell?_of_block (a := ⟨bx, 0, none⟩) (hgr.block bx (lt_of_cell hbox) (by intro e; injection e with e; omega))]
      exact hbox
    refine (busy_closure bx bm n D ps hD x.1 y.1 x.2 y.2 _ hbox' hown').mono ?_
    rintro e w' ⟨rfl, o, rfl⟩
    exact ⟨rfl, 0, #[o], alloc_eq_grow _ _⟩
  have eg : ∀ args w, (callFunc 24 args).run Try.prog w = .ok (.enter 24 args) w := enters_of Try.func24 (by kernel_rfl) rfl
  have hcon := Any.slices_SortFunc_total Try.sortInt encN (fun _ => rfl) (cfN ps) (swoN ps) 24 #[.pointer (some ⟨bx, 0, none⟩)] g 0 cap d.toArray w eg hcmp hH hblk (by show d.length < _; omega)
    (fun x y h1 h2 => Subtype.ext (by rw [ltN, Busy.lt_false] at h1 h2; omega))
  change Calls Try.prog 23 _ _ _ at hcon
  rw [show d.toArray.size = l.length from hdl] at hcon
  refine hcon.mono ?_
  rintro e w' ⟨rfl, q, os, rfl⟩
  refine ⟨rfl, ?_, grown_sortWorld _ _ _ _ _ _ _⟩
  have hms : (d.mergeSort fun x y => !ltOf (cfN ps) y x).map Subtype.val = l.mergeSort fun x y => !Busy.lt ps y x := by
    rw [← hd]
    exact List.map_mergeSort fun a _ b _ => rfl
  generalize hM : (l.mergeSort fun x y => !Busy.lt ps y x) = M at *
  have hMl : M.length = l.length := by rw [← hM]; exact List.length_mergeSort _
  have hS := holds_sortWorld encN w g 0 q d.toArray (d.mergeSort fun x y => !ltOf (cfN ps) y x).toArray os hblk hH (by show (d.mergeSort _).length = d.length; exact List.length_mergeSort _)
  refine ⟨some ⟨g, 0, none⟩, cap, by rw [hMl], by omega, .inr ⟨g, 0, rfl, fun i hi => ?_⟩⟩
  have hi' : i < (d.mergeSort fun x y => !ltOf (cfN ps) y x).length := by rw [List.length_mergeSort, hdl]; omega
  rw [(hS i hi').1, getElem!_pos _ i hi']
  have e := List.getElem_map (l := d.mergeSort fun x y => !ltOf (cfN ps) y x) (i := i) Subtype.val (h := by rw [List.length_map]; exact hi')
  show some (Value.int .i64 ((d.mergeSort fun x y => !ltOf (cfN ps) y x)[i]'hi').1) = _
  rw [← e]
  congr 2
  exact List.getElem_of_eq hms _

end Go.Proofs.Ytmdeepdediafbaa
