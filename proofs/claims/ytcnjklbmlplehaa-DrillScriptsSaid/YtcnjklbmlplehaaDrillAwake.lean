/- awake of the drill's law; scripts as lists of operations. -/
import Derived.Test.YtcnjklbmlplehaaDrillScript
import Derived.Test.YtcnjklbmlplehaaDrillCount
import Derived.Test.YtcnjklbmlplehaaGraphLine
namespace Go.Proofs.Ytcnjklbmlplehaa
open Go.RowKit

theorem opsCells_at (l : List OpV) (i r : Nat) (hi : i < l.length) (hr : r < 8) : (opsCells l)[i * 8 + r]? = (opCells l[i])[r]? := by
  induction l generalizing i with
  | nil => simp at hi
  | cons e l ih =>
    have e1 : opsCells (e :: l) = (opCells e).toList ++ opsCells l := by unfold opsCells; rw [List.flatMap_cons]
    have hl : (opCells e).toList.length = 8 := rfl
    cases i with
    | zero =>
      rw [e1, Nat.zero_mul, Nat.zero_add, List.getElem?_append_left (by rw [hl]; exact hr), Array.getElem?_toList]
      rfl
    | succ i =>
      rw [e1, List.getElem?_append_right (by rw [hl]; omega), hl, show (i + 1) * 8 + r - 8 = i * 8 + r from by omega, ih i (by simpa using hi)]
      rfl
theorem ops_of_row {W : World} {base : Nat} {v : Value} {l : List OpV} (h : W.ownsRow base 43 8 v l.length (opsCells l)) : OpsV W v l := by
  rcases h.2 with ⟨rfl, h0⟩ | ⟨g, cap, cur, rfl, hb, hg, hn, hc, hs, hx⟩
  · have : l = [] := List.length_eq_zero_iff.1 h0
    subst this
    exact ⟨none, 0, rfl, .inl rfl⟩
  · refine ⟨_, cap, rfl, .inr ⟨g, 0, rfl, fun i hi j u hu => ?_⟩⟩
    have hj : j < 8 := (Array.getElem?_eq_some_iff.1 hu).1
    have h1 := opsCells_at l i j hi hj
    rw [Nat.zero_add, h.cellAt (i * 8 + j) (by omega), h1]
    exact hu

set_option maxRecDepth 100000 in
set_option maxHeartbeats 1000000 in
theorem drill_awake (w : World) : Calls Try.prog 7 #[] w fun e w' => e = .returned (.bool true) ∧ Ext w w' := by
  have HL := Lib.hid (show ∀ w, Calls Try.prog 11 #[.int .i64 2] w fun e w' => ∃ v, e = .returned v ∧ GraphV w' v 2 (GR.adjOf (GR.line 2)) ∧ Ext w w' from graph_line 2 (by omega) (by omega))
  generalize GR.adjOf (GR.line 2) = adj at *
  have hs : ∀ (seed kind m : Int) (k : Nat), DR.many m = k → ∀ B c pt W, GraphAt W B 2 adj pt c → Calls Try.prog 10 #[.int .i64 seed, .int .i64 kind, .int .i64 m, .pointer (some ⟨B, 0, none⟩)] W fun e w' => ∃ p c, e = .returned (.slice p k c) ∧ Ext W w' := fun seed kind m k hk B c pt W hG =>
    (drill_script seed kind m B 2 c adj pt W hG).mono fun e w' ⟨v, he, hR⟩ => by
      obtain ⟨p, c, hv⟩ := row_slice hR.row
      rw [DR.script_length, hk] at hv
      exact ⟨p, c, by rw [he, hv], hR.ext⟩
  have H0 := Lib.hid (hs 1 0 0 0 (by decide))
  have H9 := Lib.hid (hs 1 3 9 9 (by decide))
  clear hs
  go_enter Try.func7, Try.ntmps7
  go_wp2_with fail
  refine (HL.out _).mono ?_
  rintro e w1 ⟨v1, rfl, hv1, g1⟩
  obtain ⟨B1, p1, c1, rfl, G1⟩ := hv1
  go_wp2_with fail
  refine (H0.out B1 c1 p1 w1 G1).mono ?_
  rintro e w2 ⟨q2, d2, rfl, g2⟩
  go_wp2_with fail
  refine (HL.out _).mono ?_
  rintro e w3 ⟨v3, rfl, hv3, g3⟩
  obtain ⟨B3, p3, c3, rfl, G3⟩ := hv3
  go_wp2_with fail
  refine (H9.out B3 c3 p3 w3 G3).mono ?_
  rintro e w4 ⟨q4, d4, rfl, g4⟩
  go_wp2
  go_ret
  exact ⟨rfl, (g1.trans g2).trans (g3.trans g4)⟩
end Go.Proofs.Ytcnjklbmlplehaa
