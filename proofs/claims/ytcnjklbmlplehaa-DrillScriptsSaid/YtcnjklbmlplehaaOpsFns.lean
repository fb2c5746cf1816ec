/- How many operations of each kind: the program's and the document's. -/
import Derived.Test.YtcnjklbmlplehaaOpsMem
import Derived.Test.YtcnjklbmlplehaaGraphMem
namespace Go.Proofs.Ytcnjklbmlplehaa
open Go.RowKit

set_option maxRecDepth 100000 in
set_option maxHeartbeats 1000000 in
theorem ref_count (v : Value) (l : List OpV) (kind : Int) (w : World) (h : OpsV w v l) (hm : l.length ≤ 100000) :
    Calls Try.prog 9 #[v, .int .i64 kind] w fun e w' => e = .returned (.int .i64 (DR.cnt l kind : Nat)) ∧ w = w' := by
  obtain ⟨p, c, rfl, hat⟩ := h
  obtain ⟨m, hl⟩ : ∃ m, l.length = m := ⟨_, rfl⟩
  rw [hl] at hat hm ⊢
  have HL := Lib.hid hl
  have HAT := Lib.hid hat
  clear hat hl
  go_enter Try.func9, Try.ntmps9
  go_wp2
  go_loopw [5, 6] (fun nv i W => ∃ (k x : Nat), k ≤ m ∧ i = .int .i64 k ∧ nv = .int .i64 x ∧ x ≤ k ∧ Hid (x = DR.cnt (l.take k) kind) ∧ W = w) (fun _ i _ => m - (intOf i).toNat)
  case atStart => exact ⟨0, 0, by omega, rfl, rfl, by omega, Lib.hid rfl, rfl⟩
  case round =>
    obtain ⟨k, x, hk, rfl, rfl, hxk, hx, rfl⟩ := hrel
    by_cases hlt : k < m
    · have hkl : k < l.length := by rw [HL.out]; exact hlt
      obtain ⟨b, off, rfl, hat⟩ : ∃ b off, p = some ⟨b, off, none⟩ ∧ OpsAt wr b off l := by
        rcases HAT.out with h | h
        · omega
        · exact h
      have hnx := take_next l k hkl
      obtain ⟨⟨y0, y1, y2, y3, y4, y5, y6, y7⟩, hy⟩ : ∃ y, l[k] = y := ⟨_, rfl⟩
      obtain ⟨c0, _⟩ := hat.cs hkl hy
      rw [hy] at hnx
      have hc := DR.cnt_app (l.take k) ⟨y0, y1, y2, y3, y4, y5, y6, y7⟩ kind
      rw [← hnx, ← hx.out] at hc
      obtain ⟨bb, hbb⟩ : ∃ bb, (y0 == kind) = bb := ⟨_, rfl⟩
      simp only [hbb] at hc
      have HC := Lib.hid hc
      clear hc hnx hy hat
      cases bb with
      | true =>
        go_wp2
        go_roundw
        case rel => exact ⟨k + 1, x + 1, by omega, by go_num, by go_num, by omega, Lib.hid (by rw [HC.out]; rfl), trivial⟩
        case measure => simp [intOf]; omega
      | false =>
        go_wp2
        go_roundw
        case rel => exact ⟨k + 1, x, by omega, by go_num, rfl, by omega, Lib.hid (by rw [HC.out]; rfl), trivial⟩
        case measure => simp [intOf]; omega
    · obtain rfl : k = m := by omega
      have hx2 := hx.out
      rw [List.take_of_length_le (by rw [HL.out]; exact Nat.le_refl _)] at hx2
      have HX := Lib.hid hx2
      clear hx2
      go_wp2
      go_ret
      exact ⟨by rw [← HX.out]; rfl, rfl⟩

set_option maxRecDepth 100000 in
set_option maxHeartbeats 1000000 in
theorem law_great (p : Option Addr) (m c : Nat) (l : List OpV) (most : Nat) (w : World) (hl : l.length = m) (hat : m = 0 ∨ ∃ b off, p = some ⟨b, off, none⟩ ∧ OpsAt w b off l) (hmost : most ≤ 1000) :
    Calls Try.prog 6 #[.slice p m c, .int .i64 most] w fun e w' => ∃ b, e = .returned (.bool b) ∧ (b = false → m ≤ most) ∧ w = w' := by
  have HL := Lib.hid hl
  have HAT := Lib.hid hat
  clear hat hl
  by_cases hgt : m ≤ most
  · have hgi : (m : Int) ≤ (most : Int) := by omega
    go_enter Try.func6, Try.ntmps6
    go_wp2
    go_loopw [5] (fun i W => ∃ (k : Nat), k ≤ m ∧ i = .int .i64 k ∧ W = w) (fun i _ => m - (intOf i).toNat)
    case atStart => exact ⟨0, by omega, rfl, rfl⟩
    case round =>
      obtain ⟨k, hk, rfl, rfl⟩ := hrel
      by_cases hlt : k < m
      · have hkl : k < l.length := by rw [HL.out]; exact hlt
        obtain ⟨b, off, rfl, hat⟩ : ∃ b off, p = some ⟨b, off, none⟩ ∧ OpsAt wr b off l := by
          rcases HAT.out with h | h
          · omega
          · exact h
        obtain ⟨⟨y0, y1, y2, y3, y4, y5, y6, y7⟩, hy⟩ : ∃ y, l[k] = y := ⟨_, rfl⟩
        obtain ⟨_, _, _, _, _, _, c6, c7⟩ := hat.cs hkl hy
        obtain ⟨b6, h6⟩ : ∃ b6, decide ((100 : Int) < (y6.size : Int)) = b6 := ⟨_, rfl⟩
        obtain ⟨b7, h7⟩ : ∃ b7, decide ((100 : Int) < (y7.size : Int)) = b7 := ⟨_, rfl⟩
        clear hat hy
        cases b6 <;> cases b7
        all_goals
          go_wp2
          first
            | (go_roundw
               case rel => exact ⟨k + 1, by omega, by go_num, trivial⟩
               case measure => simp [intOf]; omega)
            | (go_ret
               exact ⟨true, rfl, by simp, rfl⟩)
      · obtain rfl : k = m := by omega
        go_wp2
        go_ret
        exact ⟨false, rfl, fun _ => hgt, rfl⟩
  · have hgi : (most : Int) < (m : Int) := by omega
    go_enter Try.func6, Try.ntmps6
    go_wp2
    go_ret
    exact ⟨true, rfl, by simp, rfl⟩
end Go.Proofs.Ytcnjklbmlplehaa
