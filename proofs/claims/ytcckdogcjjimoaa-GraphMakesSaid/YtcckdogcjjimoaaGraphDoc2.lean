/- The document's Near and Edges; whether two lists of numbers, or of edges, are the same. -/
import Derived.Test.YtcckdogcjjimoaaGraphDoc
namespace Go.Proofs.Ytcckdogcjjimoaa
open Go.RowKit

set_option maxRecDepth 100000 in
set_option maxHeartbeats 2000000 in
theorem ints_same_some (b1 o1 c1 b2 o2 c2 n : Nat) (x y : List Int) (w : World) (hx : x.length = n) (hy : y.length = n) (hn : n ≤ 70368744177664) (h1 : IntsAt w b1 o1 x) (h2 : IntsAt w b2 o2 y) :
    Calls Try.prog 21 #[.slice (some ⟨b1, o1, none⟩) n c1, .slice (some ⟨b2, o2, none⟩) n c2] w fun e w' => e = .returned (.bool (decide (x = y))) ∧ Ext w w' := by
  have H1 := Lib.hid h1
  have H2 := Lib.hid h2
  have HX := Lib.hid hx
  have HY := Lib.hid hy
  clear h1 h2 hx hy
  go_enter Try.func21, Try.ntmps21
  go_wp2
  go_loopw [5] (fun i wr => ∃ (k : Nat), k ≤ n ∧ i = .int .i64 k ∧ x.take k = y.take k ∧ Ext w wr) (fun i _ => n - (intOf i).toNat)
  case atStart => exact ⟨0, by omega, rfl, by simp, Ext.refl _⟩
  case round =>
    obtain ⟨k, hk, rfl, hs, he⟩ := hrel
    by_cases hlt : k < n
    · have hkx : k < x.length := by rw [HX.out]; exact hlt
      have hky : k < y.length := by rw [HY.out]; exact hlt
      have a1 := he.cell (H1.out k hkx)
      have a2 := he.cell (H2.out k hky)
      have hnx := take_next x k hkx
      have hny := take_next y k hky
      have hne : x[k] ≠ y[k] → x ≠ y := fun h e => h (by subst e; rfl)
      generalize x[k] = d at *
      generalize y[k] = f at *
      have HS := Lib.hid hs
      have HNX := Lib.hid hnx
      have HNY := Lib.hid hny
      have HNE := Lib.hid hne
      clear hs hnx hny hne
      by_cases e1 : d = f
      · subst e1
        go_wp2
        refine wp_region_noPanic ?_
        go_region
        refine NoPanic.normal ?_
        go_wp2
        go_roundw
        case rel => exact ⟨k + 1, by omega, by go_num, by rw [HNX.out, HNY.out, HS.out], he.drewN 1⟩
        case measure => simp [intOf]; omega
      · have hd : decide (x = y) = false := decide_eq_false (HNE.out e1)
        have HDD := Lib.hid hd
        have d1 : (d != f) = true := by rw [bne_iff_ne]; exact e1
        clear hd
        go_wp2
        refine wp_region_noPanic ?_
        go_region
        refine NoPanic.normal ?_
        go_wp2
        go_ret
        exact ⟨by first | (rw [HDD.out]; rfl) | rw [HDD.out], he.drewN 1⟩
    · obtain rfl : k = n := by omega
      rw [List.take_of_length_le (by rw [HX.out]; omega), List.take_of_length_le (by rw [HY.out]; omega)] at hs
      have HDD := Lib.hid (decide_eq_true hs)
      clear hs
      go_wp2
      go_ret
      exact ⟨by first | (rw [HDD.out]; rfl) | rw [HDD.out], he⟩

set_option maxRecDepth 100000 in
theorem ints_same_nil (p q : Option Addr) (c1 c2 : Nat) (w : World) :
    Calls Try.prog 21 #[.slice p 0 c1, .slice q 0 c2] w fun e w' => e = .returned (.bool true) ∧ Ext w w' := by
  go_enter Try.func21, Try.ntmps21
  go_wp2
  refine wp_loop_rounds 1 ?_
  rw [rounds_succ]
  go_wp2
  go_ret
  exact ⟨rfl, Ext.refl _⟩

/-- Two slices of the same numbers are the same. -/
theorem ints_same (u v : Value) (x : List Int) (w : World) (hu : IntsV w u x) (hv : IntsV w v x) :
    Calls Try.prog 21 #[u, v] w fun e w' => e = .returned (.bool true) ∧ Ext w w' := by
  obtain ⟨p, c, rfl, a2, a4⟩ := hu
  obtain ⟨q, d, rfl, _, b4⟩ := hv
  rcases a4 with a4 | ⟨b, o, rfl, hx⟩
  · obtain rfl := List.length_eq_zero_iff.1 a4
    exact ints_same_nil p q c d w
  · rcases b4 with b4 | ⟨b', o', rfl, hy⟩
    · obtain rfl := List.length_eq_zero_iff.1 b4
      exact ints_same_nil _ q c d w
    · have := ints_same_some b o c b' o' d x.length x x w rfl rfl a2 hx hy
      rw [decide_eq_true rfl] at this
      exact this


/-- A row of numbers so far. -/
structure IntR (w W : World) (v : Value) (out : List Int) : Prop where
  row : W.ownsRow w.heap.size 3 1 v out.length (intCells out)
  ext : Ext w W
theorem IntR.more {w W W' : World} {v : Value} {out : List Int} (h : IntR w W v out) (he : Ext W W') : IntR w W' v out := ⟨row_to h.row he, h.ext.trans he⟩

namespace GR
def ofN (l : List Nat) : List Int := l.map Int.ofNat
theorem ofN_app (l : List Nat) (x : Nat) : ofN (l ++ [x]) = ofN l ++ [(x : Int)] := by unfold ofN; rw [List.map_append]; rfl
theorem ofN_length (l : List Nat) : (ofN l).length = l.length := List.length_map ..
/-- The document's neighbours, among some first peers. -/
def nearD (l : List Ed) (p : Int) (k : Nat) : List Nat := (List.range k).filter fun q => hasE l p (q : Int)
theorem nearD_next (l : List Ed) (p : Int) (k : Nat) : nearD l p (k + 1) = nearD l p k ++ if hasE l p (k : Int) then [k] else [] := by
  unfold nearD
  rw [List.range_succ, List.filter_append]
  congr 1
  by_cases h : hasE l p (k : Int) = true
  · simp [h]
  · simp [h]
theorem nearD_length (l : List Ed) (p : Int) (k : Nat) : (nearD l p k).length ≤ k := by
  have := List.length_filter_le (fun q : Nat => hasE l p (q : Int)) (List.range k)
  rw [List.length_range] at this
  exact this
theorem hasE_neg {n : Nat} {l : List Ed} (h : OkE n l) {p q : Int} (hp : p < 0) : hasE l p q = false := by
  cases hb : hasE l p q with
  | false => rfl
  | true =>
    unfold hasE at hb
    rw [List.any_eq_true] at hb
    obtain ⟨e, he, h2⟩ := hb
    have := good_ed (h e he)
    simp only [Bool.or_eq_true, Bool.and_eq_true, decide_eq_true_eq] at h2
    omega
theorem nearD_eq {n : Nat} {l : List Ed} (h : OkE n l) (p : Int) : nearD l p n = nearZ n (adjOf l) p := by
  unfold nearZ nearD near
  by_cases hp : 0 ≤ p
  · rw [if_pos hp]
    obtain ⟨u, rfl⟩ := Int.eq_ofNat_of_zero_le hp
    rw [Int.toNat_natCast]
    rfl
  · rw [if_neg hp]
    rw [List.filter_eq_nil_iff]
    intro q _
    rw [hasE_neg h (by omega)]
    exact Bool.false_ne_true

/-- Links as edges; the document's, on the way. -/
def toEd (l : List Lk) : List Ed := l.map fun z => ((z.1 : Int), (z.2 : Int))
theorem toEd_app (l m : List Lk) : toEd (l ++ m) = toEd l ++ toEd m := List.map_append
theorem toEd_length (l : List Lk) : (toEd l).length = l.length := List.length_map ..
def linksTo (adj : Nat → Nat → Bool) (a m : Nat) : List Lk := ((List.range m).filter fun b => decide (a < b) && adj a b).map fun b => (a, b)
theorem linksTo_eq (n : Nat) (adj : Nat → Nat → Bool) (a : Nat) : linksTo adj a n = linksAt n adj a := rfl
theorem linksTo_start (adj : Nat → Nat → Bool) (a : Nat) : linksTo adj a (a + 1) = [] := by
  unfold linksTo
  rw [List.filter_eq_nil_iff.2, List.map_nil]
  intro b hb
  rw [List.mem_range] at hb
  rw [decide_eq_false (by omega)]
  exact Bool.false_ne_true
theorem linksTo_next (adj : Nat → Nat → Bool) {a m : Nat} (h : a < m) : linksTo adj a (m + 1) = linksTo adj a m ++ if adj a m then [(a, m)] else [] := by
  unfold linksTo
  rw [List.range_succ, List.filter_append, List.map_append]
  congr 1
  by_cases hb : adj a m = true
  · rw [if_pos hb, List.filter_cons_of_pos (by rw [decide_eq_true h, hb]; rfl)]; rfl
  · rw [if_neg hb, List.filter_cons_of_neg (by rw [decide_eq_true h]; simpa using hb)]; rfl
def linksOf (n : Nat) (adj : Nat → Nat → Bool) (k : Nat) : List Lk := (List.range k).flatMap (linksAt n adj)
theorem linksOf_next (n : Nat) (adj : Nat → Nat → Bool) (k : Nat) : linksOf n adj (k + 1) = linksOf n adj k ++ linksAt n adj k := by
  unfold linksOf
  rw [List.range_succ, List.flatMap_append]
  simp
theorem linksTo_length (adj : Nat → Nat → Bool) (a m : Nat) : (linksTo adj a m).length ≤ m := by
  unfold linksTo
  rw [List.length_map]
  have := List.length_filter_le (fun b => decide (a < b) && adj a b) (List.range m)
  rw [List.length_range] at this
  exact this
theorem linksOf_length (n : Nat) (adj : Nat → Nat → Bool) (k : Nat) : (linksOf n adj k).length ≤ k * n := by
  induction k with
  | zero => exact Nat.zero_le _
  | succ k ih =>
    rw [linksOf_next, List.length_append, Nat.add_mul, Nat.one_mul, ← linksTo_eq]
    have := linksTo_length adj k n
    omega
end GR

set_option maxRecDepth 100000 in
set_option maxHeartbeats 2000000 in
theorem ref_near (v : Value) (l : List GR.Ed) (n : Nat) (p : Int) (w : World) (h : EdsV w v l) (hn : n ≤ 64) :
    Calls Try.prog 22 #[.int .i64 n, v, .int .i64 p] w fun e w' => ∃ v', e = .returned v' ∧ IntR w w' v' (GR.ofN (GR.nearD l p n)) := by
  obtain ⟨i0, hi, hz0, hz1, hz2⟩ := info_parts info_int
  have Hi := Lib.hid hi
  have HH := Lib.hid (fun q W (hW : Ext w W) => ref_has v l p q W (h.ext hW))
  obtain ⟨a, c, rfl, _⟩ := h
  generalize hnl : l.length = nl at *
  clear hi hnl
  go_enter Try.func22, Try.ntmps22
  go_wp2
  go_loopw [7, 8] (fun ov i wr => ∃ (k : Nat) (out : List Int), k ≤ n ∧ i = .int .i64 k ∧ IntR w wr ov out ∧ Hid (out = GR.ofN (GR.nearD l p k))) (fun _ i _ => n - (intOf i).toNat)
  case atStart => exact ⟨0, [], by omega, rfl, ⟨World.ownsRow_nil _ _ _ _, Ext.refl _⟩, Lib.hid rfl⟩
  case round =>
    obtain ⟨k, out, hk, rfl, hI, HO⟩ := hrel
    obtain ⟨p1, q1, rfl⟩ := row_slice hI.row
    have hlen : out.length ≤ k := by rw [HO.out, GR.ofN_length]; exact GR.nearD_length ..
    by_cases hlt : k < n
    · have hcall := HH.out (k : Int) wr hI.ext
      have hstep := GR.nearD_next l p k
      obtain ⟨bb, hbb⟩ : ∃ b, GR.hasE l p (k : Int) = b := ⟨_, rfl⟩
      rw [hbb] at hcall hstep
      have HC := Lib.hid hcall
      have HST := Lib.hid hstep
      have HI := Lib.hid hI
      clear hcall hstep hbb hI
      go_wp2_with fail
      refine HC.out.mono ?_
      rintro e w1 ⟨rfl, g1⟩
      cases bb with
      | false =>
        go_wp2
        go_roundw
        case rel => exact ⟨k + 1, out, by omega, by go_num, HI.out.more g1, Lib.hid (by rw [HST.out, HO.out]; simp)⟩
        case measure => simp [intOf]; omega
      | true =>
        have hrow := (row_to HI.out.row g1).alloc (.cells #[.int .i64 k] 3)
        have HROW := Lib.hid hrow
        have hs1 : w.heap.size ≤ w1.heap.size := (HI.out.ext.trans g1).size
        have hs2 : w.heap.size ≤ (w1.alloc (.cells #[.int .i64 k] 3)).heap.size := by rw [World.size_alloc]; omega
        have hb1 : out.length + 1 ≤ maxLen := by unfold maxLen; omega
        have hb2 : (out.length + 1) * 8 ≤ 140737488355328 := by omega
        clear hrow
        go_wp2_with (at_builtin; refine wpList_append_own_at _ rfl _ _ 39 rfl w.heap.size 3 i0 (.int .i64 0) 1 8 Try.underlying39 Hi.out hz0 hz1 hz2 rfl (by decide) _ _ _ rfl HROW.out ⟨w1.heap.size, 0, none⟩ 1 1 [.int .i64 k] rfl rfl (cell_one_new _ _ _) (by simp [Value.oneCell']) hb1 hb2 hs2 ?_; intro v' w6 hown' hgrow _ hat)
        go_roundw
        case rel =>
          refine ⟨k + 1, out ++ [(k : Int)], by omega, by go_num, ⟨?_, ext_grownV ((HI.out.ext.trans g1).alloc _) HROW.out hgrow (Nat.le_refl _)⟩, Lib.hid (by rw [HST.out, HO.out, ← GR.ofN_app]; rfl)⟩
          rw [intCells_app, List.length_append]
          exact hown'
        case measure => simp [intOf]; omega
    · obtain rfl : k = n := by omega
      have hfin : IntR w wr (.slice p1 out.length q1) (GR.ofN (GR.nearD l p k)) := by rw [← HO.out]; exact hI
      have HF := Lib.hid hfin
      clear hI hfin
      go_wp2
      go_ret
      exact ⟨_, rfl, HF.out⟩
end Go.Proofs.Ytcckdogcjjimoaa
