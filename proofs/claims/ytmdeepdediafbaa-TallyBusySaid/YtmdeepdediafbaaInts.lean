/- Slices of numbers: how they lie, whether two are the same, whether a number is in one. -/
import Derived.Test.YtmdeepdediafbaaRefOf
import Derived.Deep.RegionHeld3
namespace Go.Proofs.Ytmdeepdediafbaa
open Go.RowKit

def IntsAt (w : World) (b o : Nat) (l : List Int) : Prop := ∀ i (h : i < l.length), w.cell? ⟨b, o + i, none⟩ = some (.int .i64 l[i])
theorem IntsAt.ext {w w' : World} {b o : Nat} {l : List Int} (h : IntsAt w b o l) (he : Ext w w') : IntsAt w' b o l := fun i hi => he.cell (h i hi)

/-- A value that is a slice of numbers. -/
def IntsV (w : World) (v : Value) (l : List Int) : Prop := ∃ p c, v = .slice p l.length c ∧ l.length ≤ 70368744177664 ∧ (l.length = 0 ∨ ∃ b o, p = some ⟨b, o, none⟩ ∧ IntsAt w b o l)
theorem IntsV.ext {w w' : World} {v : Value} {l : List Int} (h : IntsV w v l) (he : Ext w w') : IntsV w' v l := by
  obtain ⟨p, c, h1, h2, h3⟩ := h
  exact ⟨p, c, h1, h2, h3.imp id fun ⟨b, o, hp, hs⟩ => ⟨b, o, hp, hs.ext he⟩⟩

theorem info_int : (Try.prog.info? 3).map (fun i => (i.zero, i.size, i.bytes)) = some (some (.int .i64 0), 1, 8) := by kernel_rfl

def intCells (l : List Int) : List Value := l.map (Value.int .i64)
theorem intCells_length (l : List Int) : (intCells l).length = l.length := List.length_map ..
theorem intCells_app (l : List Int) (x : Int) : intCells (l ++ [x]) = intCells l ++ [.int .i64 x] := by unfold intCells; rw [List.map_append]; rfl

theorem row_ints {W : World} {base : Nat} {e : TypeId} {v : Value} {l : List Int} (h : W.ownsRow base e 1 v l.length (intCells l)) (hl : l.length ≤ 70368744177664) : IntsV W v l := by
  rcases h.2 with ⟨rfl, h0⟩ | ⟨g, cap, cur, rfl, hb, hg, hn, hc, hs, hx⟩
  · have : l = [] := List.length_eq_zero_iff.1 h0
    subst this
    exact ⟨none, 0, rfl, by simp, .inl rfl⟩
  · refine ⟨_, cap, rfl, hl, .inr ⟨g, 0, rfl, fun i hi => ?_⟩⟩
    have k1 := h.cellAt i (by omega)
    rw [Nat.zero_add, k1]
    unfold intCells
    rw [List.getElem?_map, List.getElem?_eq_getElem hi]
    rfl

/-- What is owned stays owned where the world grows at most. -/
theorem rows_ext {W W' : World} {base : Nat} {e : TypeId} {size : Nat} {v : Value} {n : Nat} {xs : List Value} (h : W.ownsRow base e size v n xs) (he : Ext W W') : W'.ownsRow base e size v n xs := by
  obtain ⟨h1, h2⟩ := h
  refine ⟨h1, ?_⟩
  rcases h2 with h2 | ⟨g, cap, cur, hv, hg, hh, r⟩
  · exact .inl h2
  · exact .inr ⟨g, cap, cur, hv, hg, (he.block (Array.getElem?_eq_some_iff.1 hh).1).trans hh, r⟩

set_option maxRecDepth 100000 in
set_option maxHeartbeats 2000000 in
theorem ints_same_some (b1 o1 c1 b2 o2 c2 n : Nat) (x y : List Int) (w : World) (hx : x.length = n) (hy : y.length = n) (hn : n ≤ 70368744177664) (h1 : IntsAt w b1 o1 x) (h2 : IntsAt w b2 o2 y) :
    Calls Try.prog 15 #[.slice (some ⟨b1, o1, none⟩) n c1, .slice (some ⟨b2, o2, none⟩) n c2] w fun e w' => e = .returned (.bool (decide (x = y))) ∧ Ext w w' := by
  have H1 : Hid (IntsAt w b1 o1 x) := h1
  have H2 : Hid (IntsAt w b2 o2 y) := h2
  have HX := Lib.hid hx
  have HY := Lib.hid hy
  clear h1 h2 hx hy
  go_enter Try.func15, Try.ntmps15
  go_wp2
  go_loopw [5] (fun i wr => ∃ (k : Nat), k ≤ n ∧ i = .int .i64 k ∧ x.take k = y.take k ∧ Ext w wr) (fun i _ => n - (intOf i).toNat)
  case atStart => exact ⟨0, by omega, rfl, by simp, Ext.refl _⟩
  case round =>
    obtain ⟨k, hk, rfl, hs, he⟩ := hrel
    by_cases hlt : k < n
    · have hkx : k < x.length := by rw [HX.out]; exact hlt
      have hky : k < y.length := by rw [HY.out]; exact hlt
      have a1 := he.cell (H1.out k hkx)
      have a2 := he.cell (H2.out k hky)
      have hnx := take_next x k hkx
      have hny := take_next y k hky
      have hne : x[k] ≠ y[k] → x ≠ y := fun h e => h (by subst e; rfl)
      generalize x[k] = d at *
      generalize y[k] = f at *
      have HS := Lib.hid hs
      have HNX := Lib.hid hnx
      have HNY := Lib.hid hny
      have HNE := Lib.hid hne
      clear hs hnx hny hne
      by_cases e1 : d = f
      · subst e1
        go_wp2
        refine wp_region_noPanic ?_
        go_region
        refine NoPanic.normal ?_
        go_wp2
        go_roundw
        case rel => exact ⟨k + 1, by omega, by go_num, by rw [HNX.out, HNY.out, HS.out], he.drewN 1⟩
        case measure => simp [intOf]; omega
      · have hd : decide (x = y) = false := decide_eq_false (HNE.out e1)
        have HDD := Lib.hid hd
        have d1 : (d != f) = true := by rw [bne_iff_ne]; exact e1
        clear hd
        go_wp2
        refine wp_region_noPanic ?_
        go_region
        refine NoPanic.normal ?_
        go_wp2
        go_ret
        exact ⟨by first | (rw [HDD.out]; rfl) | rw [HDD.out], he.drewN 1⟩
    · obtain rfl : k = n := by omega
      rw [List.take_of_length_le (by rw [HX.out]; omega), List.take_of_length_le (by rw [HY.out]; omega)] at hs
      have HDD := Lib.hid (decide_eq_true hs)
      clear hs
      go_wp2
      go_ret
      exact ⟨by first | (rw [HDD.out]; rfl) | rw [HDD.out], he⟩

set_option maxRecDepth 100000 in
theorem ints_same_nil (p q : Option Addr) (c1 c2 : Nat) (w : World) :
    Calls Try.prog 15 #[.slice p 0 c1, .slice q 0 c2] w fun e w' => e = .returned (.bool true) ∧ Ext w w' := by
  go_enter Try.func15, Try.ntmps15
  go_wp2
  refine wp_loop_rounds 1 ?_
  rw [rounds_succ]
  go_wp2
  go_ret
  exact ⟨rfl, Ext.refl _⟩

/-- Two slices of the same numbers are the same. -/
theorem ints_same (u v : Value) (x : List Int) (w : World) (hu : IntsV w u x) (hv : IntsV w v x) :
    Calls Try.prog 15 #[u, v] w fun e w' => e = .returned (.bool true) ∧ Ext w w' := by
  obtain ⟨p, c, rfl, a2, a4⟩ := hu
  obtain ⟨q, d, rfl, _, b4⟩ := hv
  rcases a4 with a4 | ⟨b, o, rfl, hx⟩
  · obtain rfl := List.length_eq_zero_iff.1 a4
    exact ints_same_nil p q c d w
  · rcases b4 with b4 | ⟨b', o', rfl, hy⟩
    · obtain rfl := List.length_eq_zero_iff.1 b4
      exact ints_same_nil _ q c d w
    · have := ints_same_some b o c b' o' d x.length x x w rfl rfl a2 hx hy
      rw [decide_eq_true rfl] at this
      exact this

set_option maxRecDepth 100000 in
theorem ref_has_nil (p : Option Addr) (c : Nat) (x : Int) (w : World) :
    Calls Try.prog 28 #[.slice p 0 c, .int .i64 x] w fun e w' => e = .returned (.bool false) ∧ w = w' := by
  go_enter Try.func28, Try.ntmps28
  go_wp2
  refine wp_loop_rounds 1 ?_
  rw [rounds_succ]
  go_wp2
  go_ret
  exact ⟨rfl, rfl⟩

set_option maxRecDepth 100000 in
theorem ref_has_some (b o n c : Nat) (l : List Int) (x : Int) (w : World) (hn : l.length = n) (hm : n ≤ 70368744177664) (hl : IntsAt w b o l) :
    Calls Try.prog 28 #[.slice (some ⟨b, o, none⟩) n c, .int .i64 x] w fun e w' => e = .returned (.bool (decide (x ∈ l))) ∧ w = w' := by
  have HL := Lib.hid hl
  have HN := Lib.hid hn
  clear hl hn
  go_enter Try.func28, Try.ntmps28
  go_wp2
  go_loopw [5] (fun i wr => ∃ (k : Nat), k ≤ n ∧ i = .int .i64 k ∧ x ∉ l.take k ∧ w = wr) (fun i _ => n - (intOf i).toNat)
  case atStart => exact ⟨0, by omega, rfl, by simp, rfl⟩
  case round =>
    obtain ⟨k, hk, rfl, hs, rfl⟩ := hrel
    by_cases hlt : k < n
    · have hkl : k < l.length := by rw [HN.out]; exact hlt
      have a1 := HL.out k hkl
      have hnx := take_next l k hkl
      have hmem : l[k] ∈ l := List.getElem_mem _
      generalize l[k] = d at *
      have HS := Lib.hid hs
      have HNX := Lib.hid hnx
      clear hs hnx
      by_cases e1 : d = x
      · subst e1
        have HDD := Lib.hid (decide_eq_true hmem)
        have d1 : (d == d) = true := beq_self_eq_true d
        clear hmem
        go_wp2
        go_ret
        exact ⟨by first | (rw [HDD.out]; rfl) | rw [HDD.out], rfl⟩
      · have d1 : (d == x) = false := by rw [beq_eq_false_iff_ne]; exact e1
        have HE := Lib.hid e1
        clear e1 hmem
        go_wp2
        go_roundw
        case rel => exact ⟨k + 1, by omega, by go_num, by rw [HNX.out, List.mem_append, List.mem_singleton]; exact fun h => h.elim HS.out fun h => HE.out h.symm, trivial⟩
        case measure => simp [intOf]; omega
    · obtain rfl : k = n := by omega
      rw [List.take_of_length_le (by rw [HN.out]; omega)] at hs
      have HDD := Lib.hid (decide_eq_false hs)
      clear hs
      go_wp2
      go_ret
      exact ⟨by first | (rw [HDD.out]; rfl) | rw [HDD.out], rfl⟩

/-- Whether a number is in a slice. -/
theorem ref_has (v : Value) (l : List Int) (x : Int) (w : World) (h : IntsV w v l) :
    Calls Try.prog 28 #[v, .int .i64 x] w fun e w' => e = .returned (.bool (decide (x ∈ l))) ∧ w = w' := by
  obtain ⟨p, c, rfl, h2, h3 | ⟨b, o, rfl, h4⟩⟩ := h
  · obtain rfl := List.length_eq_zero_iff.1 h3
    rw [decide_eq_false (by simp)]
    exact ref_has_nil p c x w
  · exact ref_has_some b o _ c l x w rfl h2 h4

end Go.Proofs.Ytmdeepdediafbaa
