/- own and its: a set, as the program has it and as the document has it. many: is one of the sets too great for the law? -/
import Derived.Test.YtdgjjlffdfpkcaaLawGaps

namespace Go.Proofs.Ytdgjjlffdfpkcaa
open Go.RowKit

set_option maxRecDepth 100000 in
theorem dots_own (p1 p2 : Option Addr) (n1 c1 n2 c2 : Nat) (w : World) : Calls Try.prog 10 #[.agg #[.slice p1 n1 c1, .slice p2 n2 c2]] w fun e w' => e = .returned (.agg #[.slice p1 n1 c1, .slice p2 n2 c2]) ∧ Ext w w' := by
  have hE : Ext w ((w.alloc (.cells #[.slice p1 n1 c1, .slice p2 n2 c2] 24)).alloc (.cells #[.slice p1 n1 c1, .slice p2 n2 c2] 29)) := ((Ext.refl w).alloc _).alloc _
  have hT := Two.new (w.alloc (.cells #[.slice p1 n1 c1, .slice p2 n2 c2] 24)) 29 (.slice p1 n1 c1) (.slice p2 n2 c2)
  have hw0 : (w.alloc (.cells #[.slice p1 n1 c1, .slice p2 n2 c2] 24)).heap.size = w.heap.size + 1 := World.size_alloc _ _
  rw [hw0] at hT
  have HT := Lib.hid hT
  have HE := Lib.hid hE
  clear hT hw0 hE
  go_enter Try.func10, Try.ntmps10
  go_wp2
  refine bodyPost_ret (results_cell_row rfl _ _ (w.heap.size + 1) _ _ _ _ rfl HT.out Try.underlying29 rfl (by kernel_rfl)) rfl ?_
  exact ⟨rfl, HE.out⟩
set_option maxRecDepth 100000 in
theorem dots_its (p1 p2 : Option Addr) (n1 c1 n2 c2 : Nat) (w : World) : Calls Try.prog 22 #[.agg #[.slice p1 n1 c1, .slice p2 n2 c2]] w fun e w' => e = .returned (.agg #[.slice p1 n1 c1, .slice p2 n2 c2]) ∧ Ext w w' := by
  have hE : Ext w ((w.alloc (.cells #[.slice p1 n1 c1, .slice p2 n2 c2] 29)).alloc (.cells #[.slice p1 n1 c1, .slice p2 n2 c2] 24)) := ((Ext.refl w).alloc _).alloc _
  have hT := Two.new (w.alloc (.cells #[.slice p1 n1 c1, .slice p2 n2 c2] 29)) 24 (.slice p1 n1 c1) (.slice p2 n2 c2)
  have hw0 : (w.alloc (.cells #[.slice p1 n1 c1, .slice p2 n2 c2] 29)).heap.size = w.heap.size + 1 := World.size_alloc _ _
  rw [hw0] at hT
  have HT := Lib.hid hT
  have HE := Lib.hid hE
  clear hT hw0 hE
  go_enter Try.func22, Try.ntmps22
  go_wp2
  refine bodyPost_ret (results_cell_row rfl _ _ (w.heap.size + 1) _ _ _ _ rfl HT.out Try.underlying24 rfl (by kernel_rfl)) rfl ?_
  exact ⟨rfl, HE.out⟩
end Go.Proofs.Ytdgjjlffdfpkcaa

namespace Go.Proofs.Ytdgjjlffdfpkcaa
open Go.RowKit

set_option maxRecDepth 100000 in
set_option maxHeartbeats 1000000 in
theorem dots_many (B off c n : Nat) (p1 p2 : Nat → Option Addr) (n1 c1 n2 c2 : Nat → Nat) (w : World) (hn : n ≤ 100)
    (h : ∀ i, i < n → w.cell? ⟨B, off + i * 2, none⟩ = some (.slice (p1 i) (n1 i) (c1 i)) ∧ w.cell? ⟨B, off + i * 2 + 1, none⟩ = some (.slice (p2 i) (n2 i) (c2 i))) :
    Calls Try.prog 8 #[.slice (some ⟨B, off, none⟩) n c] w fun e w' => e = .returned (.bool (decide (∃ i, i < n ∧ (80 < n1 i ∨ 60 < n2 i)))) ∧ Ext w w' := by
  obtain ⟨r, hr⟩ : ∃ r, decide (∃ i, i < n ∧ (80 < n1 i ∨ 60 < n2 i)) = r := ⟨_, rfl⟩
  rw [hr]
  have HR := Lib.hid hr
  have H := Lib.hid h
  clear hr h
  go_enter Try.func8, Try.ntmps8
  go_wp2
  go_loopw [3] (fun i wr => ∃ (k : Nat), k ≤ n ∧ i = .int .i64 k ∧ (∀ j, j < k → n1 j ≤ 80 ∧ n2 j ≤ 60) ∧ Ext w wr) (fun i _ => n - (intOf i).toNat)
  case atStart => exact ⟨0, by omega, rfl, by omega, Ext.refl _⟩
  case round =>
    obtain ⟨k, hk, rfl, hs, hx⟩ := hrel
    by_cases hlt : k < n
    · have h1 := hx.cell (H.out k hlt).1
      have h2 := hx.cell (H.out k hlt).2
      have HS := Lib.hid hs
      clear hs
      by_cases g1 : 80 < n1 k
      · have : r = true := by rw [← HR.out]; exact decide_eq_true ⟨k, hlt, .inl g1⟩
        subst this
        go_wp2
        go_ret
        exact ⟨rfl, hx⟩
      · by_cases g2 : 60 < n2 k
        · have : r = true := by rw [← HR.out]; exact decide_eq_true ⟨k, hlt, .inr g2⟩
          subst this
          go_wp2
          go_ret
          exact ⟨rfl, hx⟩
        · go_wp2
          go_roundw
          case rel => exact ⟨k + 1, by omega, by go_num, fun j hj => by by_cases e : j = k; (· subst e; omega); exact HS.out j (by omega), hx⟩
          case measure => simp [intOf]; omega
    · obtain rfl : k = n := by omega
      have : r = false := by
        rw [← HR.out]
        refine decide_eq_false ?_
        rintro ⟨i, hi, h⟩
        have := hs i hi
        omega
      subst this
      go_wp2
      go_ret
      exact ⟨rfl, hx⟩
end Go.Proofs.Ytdgjjlffdfpkcaa
