/- What the document's of answers: the vector of counts. -/
import Derived.Test.YtdgjjlffdfpkcaaRefVec
import Derived.Test.YtdgjjlffdfpkcaaVecJoin
import Derived.Deep.MidRow
namespace Go.Proofs.Ytdgjjlffdfpkcaa
open Go.RowKit Go.Shelf

theorem ownsRow_from {W : World} {base : Nat} {e : TypeId} {size : Nat} {v : Value} {k : Nat} {xs : List Value} (h : W.ownsRow base e size v k xs) : ∀ j, v.ownBlock = some j → base ≤ j := by
  intro j ej
  rcases h.2 with ⟨rfl, _⟩ | ⟨g, cap, cur, rfl, hb, _, _⟩
  · simp [Value.ownBlock] at ej
  · obtain rfl : g = j := by simpa [Value.ownBlock] using ej
    exact hb

theorem ownsRow_isSlice {W : World} {base : Nat} {e : TypeId} {size : Nat} {v : Value} {k : Nat} {xs : List Value} (h : W.ownsRow base e size v k xs) : ∃ p c, v = .slice p k c := by
  rcases h.2 with ⟨rfl, rfl⟩ | ⟨g, cap, cur, rfl, _⟩
  · exact ⟨_, _, rfl⟩
  · exact ⟨_, _, rfl⟩

set_option maxRecDepth 100000 in
set_option maxHeartbeats 2000000 in
theorem ref_of (cs : List Value) (f : Nat → Int) (w : World) (hf : ∀ i, i < 64 → cs[i]? = some (.int .i64 (f i))) (hfit : ∀ i, i < 64 → f i ≤ 1048576) :
    Calls Try.prog 63 #[.agg cs.toArray] w fun e w' => ∃ v, e = .returned v ∧ DotsV w' v (Vec.ofCounts f 64) ∧ Ext w w' := by
  obtain ⟨i0, hi, hz0, hz1, hz2⟩ := info_parts info_dot
  have Hi := Lib.hid hi
  have HF := Lib.hid hfit
  clear hi hfit
  go_enter Try.func63, Try.ntmps63
  go_wp2
  have hcell : ∀ i, i < 64 → (w.alloc (.cells (Value.agg cs.toArray).cells 80)).cell? ⟨w.heap.size, i, none⟩ = some (.int .i64 (f i)) := fun i hi => by
    rw [alloc_cell]
    show cs.toArray[i]? = _
    rw [List.getElem?_toArray]
    exact hf i hi
  have hE0 : Ext w (w.alloc (.cells (Value.agg cs.toArray).cells 80)) := (Ext.refl w).alloc _
  have hs0 : (w.alloc (.cells (Value.agg cs.toArray).cells 80)).heap.size = w.heap.size + 1 := World.size_alloc _ _
  simp only [Value.cells] at *
  generalize w.alloc (.cells cs.toArray 80) = w1 at *
  have HC := Lib.hid hcell
  clear hcell hf
  go_loopw [3, 4] (fun v i wr => ∃ (k : Nat), k ≤ 64 ∧ i = .int .i64 k ∧ wr.ownsRow w1.heap.size 26 2 v (Vec.ofCounts f k).length (dotCells (Vec.ofCounts f k)) ∧ Ext w1 wr) (fun _ i _ => 64 - (intOf i).toNat)
  case atStart => exact ⟨0, by omega, rfl, World.ownsRow_nil _ _ _ _, Ext.refl _⟩
  case round =>
    obtain ⟨k, hk, rfl, hrow, he⟩ := hrel
    by_cases hlt : k < 64
    · have h1 := he.cell (HC.out k hlt)
      have hs := he.size
      have hkl := Vec.ok_length (Vec.ofCounts_ok f k hk (fun i hi => HF.out i (by omega))).1
      by_cases hpos : 0 < f k
      · have hst : Vec.ofCounts f (k + 1) = Vec.ofCounts f k ++ [((k : Int), f k)] := by rw [Vec.ofCounts, if_pos hpos]
        have HS := Lib.hid hst
        clear hst
        obtain ⟨p, c, rfl⟩ := ownsRow_isSlice hrow
        have b1 : (Vec.ofCounts f k).length + 1 ≤ maxLen := by unfold maxLen; omega
        have b2 : ((Vec.ofCounts f k).length + 1) * 16 ≤ 140737488355328 := by omega
        have b3 : w1.heap.size ≤ (wr.alloc (.cells #[.int .i64 k, .int .i64 (f k)] 26)).heap.size := by rw [World.size_alloc]; omega
        have hpos2 : decide (f k > 0) = true := decide_eq_true hpos
        generalize hK : (Vec.ofCounts f k).length = K at *
        generalize hD : dotCells (Vec.ofCounts f k) = D at *
        generalize hz : f k = z at *
        go_wp2_with (at_builtin; refine wpList_append_own _ rfl _ _ 22 rfl w1.heap.size 26 i0 (dotV (0, 0)) 2 16 Try.underlying22 Hi.out hz0 hz1 hz2 rfl (by decide) _ _ _ rfl (hrow.alloc _) ⟨wr.heap.size, 0, none⟩ 1 1 [.int .i64 k, .int .i64 z] rfl rfl (cell_two_new _ _ _ _) (by simp [Value.oneCell']) b1 b2 b3 ?_; intro v' w4 hown' hgrow _)
        go_roundw
        case rel =>
          refine ⟨k + 1, by omega, by go_num, ?_, (he.alloc _).grown hgrow (ownsRow_from hrow)⟩
          rw [HS.out, dotCells_app, hD, List.length_append, hK]
          exact hown'
        case measure => simp [intOf]; omega
      · have hst : Vec.ofCounts f (k + 1) = Vec.ofCounts f k := by rw [Vec.ofCounts, if_neg hpos, List.append_nil]
        have HS := Lib.hid hst
        have HR := Lib.hid hrow
        have hpos2 : decide (f k > 0) = false := decide_eq_false hpos
        clear hst hrow
        generalize hz : f k = z at *
        go_wp2
        go_roundw
        case rel => exact ⟨k + 1, by omega, by go_num, by rw [HS.out]; exact HR.out, he⟩
        case measure => simp [intOf]; omega
    · obtain rfl : k = 64 := by omega
      have hok := (Vec.ofCounts_ok f 64 (by omega) HF.out).1
      have hdv := row_dots hrow hok.fit (by have := Vec.ok_length hok; omega)
      have HD := Lib.hid hdv
      have e64 : ((64 : Nat) : Int) = 64 := rfl
      rw [e64]
      clear hdv hrow hok
      go_wp2
      go_ret
      exact ⟨_, rfl, HD.out, hE0.trans he⟩

end Go.Proofs.Ytdgjjlffdfpkcaa
