/- How two numbers stand to one another, and which of some numbers is the first that is not nought. How two dots stand to one another. -/
import Derived.Test.YtdgjjlffdfpkcaaMem
import Derived.Test.YtdgjjlffdfpkcaaChecked
import Derived.Test.YtdgjjlffdfpkcaaDots
import Derived.Deep.RegionHeld3
import Derived.BigQuiet

namespace Go.Proofs.Ytdgjjlffdfpkcaa
open Go.RowKit

/-- How two numbers stand. -/
def cmpI (x y : Int) : Int := if x < y then -1 else if y < x then 1 else 0
theorem cmpI_range (x y : Int) : cmpI x y = -1 ∨ cmpI x y = 0 ∨ cmpI x y = 1 := by
  unfold cmpI
  split
  · exact .inl rfl
  · split
    · exact .inr (.inr rfl)
    · exact .inr (.inl rfl)

set_option maxRecDepth 100000 in
theorem cmp_isNaN (x : Int) (w : World) : Calls Try.prog 64 #[.int .i64 x] w fun e w' => e = .returned (.bool false) ∧ w = w' := by
  go_enter Try.func64, Try.ntmps64
  go_wp2
  go_ret
  exact ⟨rfl, rfl⟩

set_option maxRecDepth 100000 in
theorem cmp_compare (x y : Int) (w : World) : Calls Try.prog 50 #[.int .i64 x, .int .i64 y] w fun e w' => e = .returned (.int .i64 (cmpI x y)) ∧ w = w' := by
  unfold cmpI
  rcases (show x < y ∨ (¬ x < y ∧ y < x) ∨ (¬ x < y ∧ ¬ y < x) by omega) with h | ⟨h, h2⟩ | ⟨h, h2⟩
  · rw [if_pos h]
    go_enter Try.func50, Try.ntmps50
    go_wp2_with (go_at_call 64; refine (cmp_isNaN _ _).mono ?_; rintro e w' ⟨rfl, rfl⟩)
    go_ret
    exact ⟨rfl, rfl⟩
  · rw [if_neg h, if_pos h2]
    have d1 : decide (x < y) = false := decide_eq_false h
    have d2 : decide (x > y) = true := decide_eq_true h2
    clear h h2
    go_enter Try.func50, Try.ntmps50
    go_wp2_with (go_at_call 64; refine (cmp_isNaN _ _).mono ?_; rintro e w' ⟨rfl, rfl⟩)
    go_ret
    exact ⟨rfl, rfl⟩
  · rw [if_neg h, if_neg h2]
    have d1 : decide (x < y) = false := decide_eq_false h
    have d2 : decide (x > y) = false := decide_eq_false h2
    clear h h2
    go_enter Try.func50, Try.ntmps50
    go_wp2_with (go_at_call 64; refine (cmp_isNaN _ _).mono ?_; rintro e w' ⟨rfl, rfl⟩)
    go_ret
    exact ⟨rfl, rfl⟩

set_option maxRecDepth 100000 in
theorem cmp_or (x y : Int) (g : Nat) (w : World) (h0 : w.cell? ⟨g, 0, none⟩ = some (.int .i64 x)) (h1 : w.cell? ⟨g, 1, none⟩ = some (.int .i64 y)) :
    Calls Try.prog 49 #[.slice (some ⟨g, 0, none⟩) 2 2] w fun e w' => e = .returned (.int .i64 (if x = 0 then y else x)) ∧ w = w' := by
  by_cases hx : x = 0
  · rw [if_pos hx]
    have d1 : (x != 0) = false := by rw [bne_eq_false_iff_eq]; exact hx
    by_cases hy : y = 0
    · have d2 : (y != 0) = false := by rw [bne_eq_false_iff_eq]; exact hy
      subst hx hy
      go_enter Try.func49, Try.ntmps49
      go_wp2
      refine wp_loop_rounds 3 ?_
      rw [rounds_succ]
      go_wp2
      rw [rounds_succ]
      go_wp2
      rw [rounds_succ]
      go_wp2
      go_ret
      exact ⟨rfl, rfl⟩
    · have d2 : (y != 0) = true := by rw [bne_iff_ne]; exact hy
      subst hx
      clear hy
      go_enter Try.func49, Try.ntmps49
      go_wp2
      refine wp_loop_rounds 3 ?_
      rw [rounds_succ]
      go_wp2
      rw [rounds_succ]
      go_wp2
      go_ret
      exact ⟨rfl, rfl⟩
  · rw [if_neg hx]
    have d1 : (x != 0) = true := by rw [bne_iff_ne]; exact hx
    clear hx
    go_enter Try.func49, Try.ntmps49
    go_wp2
    refine wp_loop_rounds 3 ?_
    rw [rounds_succ]
    go_wp2
    go_ret
    exact ⟨rfl, rfl⟩

end Go.Proofs.Ytdgjjlffdfpkcaa

namespace Go.Proofs.Ytdgjjlffdfpkcaa
open Go.RowKit

/-- How two dots stand: by their peers, then by their counts. -/
def cmpD (a b : Dot) : Int := if cmpI a.1 b.1 = 0 then cmpI a.2 b.2 else cmpI a.1 b.1

theorem ext_drewN {a w : World} (h : Ext a w) (k : Nat) : Ext a (w.drewN k) := ⟨h.os, h.tape, h.output, h.size, fun _ hk => h.block hk⟩

theorem keep_quad {w w' : World} {a1 a2 a3 a4 : Addr} {v1 v2 v3 v4 : Value} (he : Ext w w') (h : w.cell? a1 = some v1 ∧ w.cell? a2 = some v2 ∧ w.cell? a3 = some v3 ∧ w.cell? a4 = some v4) : w'.cell? a1 = some v1 ∧ w'.cell? a2 = some v2 ∧ w'.cell? a3 = some v3 ∧ w'.cell? a4 = some v4 :=
  ⟨he.cell h.1, he.cell h.2.1, he.cell h.2.2.1, he.cell h.2.2.2⟩

set_option maxRecDepth 100000 in
set_option maxHeartbeats 1000000 in
theorem dots_compare (a b : Dot) (w : World) :
    Calls Try.prog 28 #[dotV a, dotV b] w fun e w' => e = .returned (.int .i64 (cmpD a b)) ∧ Ext w w' := by
  unfold dotV cmpD
  obtain ⟨a1, a2⟩ := a
  obtain ⟨b1, b2⟩ := b
  simp only
  generalize hx : cmpI a1 b1 = x
  generalize hy : cmpI a2 b2 = y
  obtain ⟨r, hr⟩ : ∃ r, (if x = 0 then y else x) = r := ⟨_, rfl⟩
  have HO := Lib.hid (cmp_or x y)
  rw [hr] at HO ⊢
  clear hr
  have HX := Lib.hid (cmp_compare a1 b1)
  have HY := Lib.hid (cmp_compare a2 b2)
  rw [hx] at HX
  rw [hy] at HY
  clear hx hy
  have hs : (w.alloc (.cells #[.int .i64 a1, .int .i64 a2] 26)).heap.size = w.heap.size + 1 := World.size_alloc _ _
  have c1 : ((w.alloc (.cells #[.int .i64 a1, .int .i64 a2] 26)).alloc (.cells #[.int .i64 b1, .int .i64 b2] 26)).cell? ⟨w.heap.size, 0, none⟩ = some (.int .i64 a1) := ((Ext.refl _).alloc _).cell (alloc_cell w _ _ 0)
  have c2 : ((w.alloc (.cells #[.int .i64 a1, .int .i64 a2] 26)).alloc (.cells #[.int .i64 b1, .int .i64 b2] 26)).cell? ⟨w.heap.size, 1, none⟩ = some (.int .i64 a2) := ((Ext.refl _).alloc _).cell (alloc_cell w _ _ 1)
  have c3 : ((w.alloc (.cells #[.int .i64 a1, .int .i64 a2] 26)).alloc (.cells #[.int .i64 b1, .int .i64 b2] 26)).cell? ⟨w.heap.size + 1, 0, none⟩ = some (.int .i64 b1) := by rw [← hs]; exact alloc_cell _ _ _ 0
  have c4 : ((w.alloc (.cells #[.int .i64 a1, .int .i64 a2] 26)).alloc (.cells #[.int .i64 b1, .int .i64 b2] 26)).cell? ⟨w.heap.size + 1, 1, none⟩ = some (.int .i64 b2) := by rw [← hs]; exact alloc_cell _ _ _ 1
  have hE : Ext w ((w.alloc (.cells #[.int .i64 a1, .int .i64 a2] 26)).alloc (.cells #[.int .i64 b1, .int .i64 b2] 26)) := ((Ext.refl w).alloc _).alloc _
  go_enter Try.func28, Try.ntmps28
  go_wp2_with fail
  generalize (w.alloc (.cells #[.int .i64 a1, .int .i64 a2] 26)).alloc (.cells #[.int .i64 b1, .int .i64 b2] 26) = w2 at *
  refine wp_region_noPanic ?_
  go_region_held3 (fun w' => w'.cell? ⟨w.heap.size, 0, none⟩ = some (.int .i64 a1) ∧ w'.cell? ⟨w.heap.size, 1, none⟩ = some (.int .i64 a2) ∧ w'.cell? ⟨w.heap.size + 1, 0, none⟩ = some (.int .i64 b1) ∧ w'.cell? ⟨w.heap.size + 1, 1, none⟩ = some (.int .i64 b2))
    (first | exact ⟨c1, c2, c3, c4⟩ | assumption | exact keep_quad ((Ext.refl _).alloc _) ‹_ ∧ _ ∧ _ ∧ _›)
    (first | (go_at_call 49; refine (HO.out _ _ ?_ ?_).mono ?_; (exact alloc_cell _ _ _ 0); (exact alloc_cell _ _ _ 1); rintro e w' ⟨rfl, rfl⟩) | (go_at_call_of 50 (Value.int IntKind.i64 a1); refine (HX.out _).mono ?_; rintro e w' ⟨rfl, rfl⟩) | (go_at_call_of 50 (Value.int IntKind.i64 a2); refine (HY.out _).mono ?_; rintro e w' ⟨rfl, rfl⟩))
  all_goals
    refine NoPanic.normal ?_
    go_wp2
    go_ret
    exact ⟨rfl, (ext_drewN hE 1).alloc _⟩

end Go.Proofs.Ytdgjjlffdfpkcaa
