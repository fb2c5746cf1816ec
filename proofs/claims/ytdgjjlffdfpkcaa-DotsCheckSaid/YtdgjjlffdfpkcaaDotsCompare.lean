/- How two dots stand to one another. -/
import Derived.Test.YtdgjjlffdfpkcaaCmp
import Derived.Test.YtdgjjlffdfpkcaaDots
import Derived.Deep.RegionHeld3
import Derived.BigQuiet
namespace Go.Proofs.Ytdgjjlffdfpkcaa
open Go.RowKit

/-- How two dots stand: by their peers, then by their counts. -/
def cmpD (a b : Dot) : Int := if cmpI a.1 b.1 = 0 then cmpI a.2 b.2 else cmpI a.1 b.1

theorem ext_drewN {a w : World} (h : Ext a w) (k : Nat) : Ext a (w.drewN k) := ⟨h.os, h.tape, h.output, h.size, fun _ hk => h.block hk⟩

theorem keep_quad {w w' : World} {a1 a2 a3 a4 : Addr} {v1 v2 v3 v4 : Value} (he : Ext w w') (h : w.cell? a1 = some v1 ∧ w.cell? a2 = some v2 ∧ w.cell? a3 = some v3 ∧ w.cell? a4 = some v4) : w'.cell? a1 = some v1 ∧ w'.cell? a2 = some v2 ∧ w'.cell? a3 = some v3 ∧ w'.cell? a4 = some v4 :=
  ⟨he.cell h.1, he.cell h.2.1, he.cell h.2.2.1, he.cell h.2.2.2⟩

set_option maxRecDepth 100000 in
set_option maxHeartbeats 1000000 in
theorem dots_compare (a b : Dot) (w : World) :
    Calls Try.prog 28 #[dotV a, dotV b] w fun e w' => e = .returned (.int .i64 (cmpD a b)) ∧ Ext w w' := by
  unfold dotV cmpD
  obtain ⟨a1, a2⟩ := a
  obtain ⟨b1, b2⟩ := b
  simp only
  generalize hx : cmpI a1 b1 = x
  generalize hy : cmpI a2 b2 = y
  obtain ⟨r, hr⟩ : ∃ r, (if x = 0 then y else x) = r := ⟨_, rfl⟩
  have HO := Lib.hid (cmp_or x y)
  rw [hr] at HO ⊢
  clear hr
  have HX := Lib.hid (cmp_compare a1 b1)
  have HY := Lib.hid (cmp_compare a2 b2)
  rw [hx] at HX
  rw [hy] at HY
  clear hx hy
  have hs : (w.alloc (.cells #[.int .i64 a1, .int .i64 a2] 26)).heap.size = w.heap.size + 1 := World.size_alloc _ _
  have c1 : ((w.alloc (.cells #[.int .i64 a1, .int .i64 a2] 26)).alloc (.cells #[.int .i64 b1, .int .i64 b2] 26)).cell? ⟨w.heap.size, 0, none⟩ = some (.int .i64 a1) := ((Ext.refl _).alloc _).cell (alloc_cell w _ _ 0)
  have c2 : ((w.alloc (.cells #[.int .i64 a1, .int .i64 a2] 26)).alloc (.cells #[.int .i64 b1, .int .i64 b2] 26)).cell? ⟨w.heap.size, 1, none⟩ = some (.int .i64 a2) := ((Ext.refl _).alloc _).cell (alloc_cell w _ _ 1)
  have c3 : ((w.alloc (.cells #[.int .i64 a1, .int .i64 a2] 26)).alloc (.cells #[.int .i64 b1, .int .i64 b2] 26)).cell? ⟨w.heap.size + 1, 0, none⟩ = some (.int .i64 b1) := by rw [← hs]; exact alloc_cell _ _ _ 0
  have c4 : ((w.alloc (.cells #[.int .i64 a1, .int .i64 a2] 26)).alloc (.cells #[.int .i64 b1, .int .i64 b2] 26)).cell? ⟨w.heap.size + 1, 1, none⟩ = some (.int .i64 b2) := by rw [← hs]; exact alloc_cell _ _ _ 1
  have hE : Ext w ((w.alloc (.cells #[.int .i64 a1, .int .i64 a2] 26)).alloc (.cells #[.int .i64 b1, .int .i64 b2] 26)) := ((Ext.refl w).alloc _).alloc _
  go_enter Try.func28, Try.ntmps28
  go_wp2_with fail
  generalize (w.alloc (.cells #[.int .i64 a1, .int .i64 a2] 26)).alloc (.cells #[.int .i64 b1, .int .i64 b2] 26) = w2 at *
  refine wp_region_noPanic ?_
  go_region_held3 (fun w' => w'.cell? ⟨w.heap.size, 0, none⟩ = some (.int .i64 a1) ∧ w'.cell? ⟨w.heap.size, 1, none⟩ = some (.int .i64 a2) ∧ w'.cell? ⟨w.heap.size + 1, 0, none⟩ = some (.int .i64 b1) ∧ w'.cell? ⟨w.heap.size + 1, 1, none⟩ = some (.int .i64 b2))
    (first | exact ⟨c1, c2, c3, c4⟩ | assumption | exact keep_quad ((Ext.refl _).alloc _) ‹_ ∧ _ ∧ _ ∧ _›)
    (first | (go_at_call 49; refine (HO.out _ _ ?_ ?_).mono ?_; (exact alloc_cell _ _ _ 0); (exact alloc_cell _ _ _ 1); rintro e w' ⟨rfl, rfl⟩) | (go_at_call_of 50 (Value.int IntKind.i64 a1); refine (HX.out _).mono ?_; rintro e w' ⟨rfl, rfl⟩) | (go_at_call_of 50 (Value.int IntKind.i64 a2); refine (HY.out _).mono ?_; rintro e w' ⟨rfl, rfl⟩))
  all_goals
    refine NoPanic.normal ?_
    go_wp2
    go_ret
    exact ⟨rfl, (ext_drewN hE 1).alloc _⟩

end Go.Proofs.Ytdgjjlffdfpkcaa
