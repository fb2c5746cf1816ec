/- SameTexts of equal texts answers true; rows of a call's own as texts. -/
import Derived.Test.YthkccaifabpleaaStrs
import Derived.Test.YthkccaifabpleaaChecked
namespace Go.Proofs.Ythkccaifabpleaa
open Go.RowKit

theorem Texts.ext {w w' : World} {p : Option Addr} {n : Nat} {l : List ByteArray} (h : Texts w p n l) (he : Ext w w') : Texts w' p n l := by
  obtain ⟨h1, h2, h3, h4⟩ := h
  exact ⟨h1, h2, h3, h4.imp id fun ⟨b, off, hp, hs⟩ => ⟨b, off, hp, hs.ext he⟩⟩

set_option maxRecDepth 100000 in
theorem same_texts_nil (p q : Option Addr) (c d : Nat) (w : World) :
    Calls Try.prog 13 #[.slice p 0 c, .slice q 0 d] w fun e w' => e = .returned (.bool true) ∧ Ext w w' := by
  go_enter Try.func13, Try.ntmps13
  go_wp2
  refine wp_loop_rounds 1 ?_
  rw [rounds_succ]
  go_wp2
  go_ret
  exact ⟨rfl, Ext.refl _⟩

set_option maxRecDepth 100000 in
set_option maxHeartbeats 400000 in
theorem same_texts_some (b1 o1 b2 o2 n c d : Nat) (l : List ByteArray) (w : World) (hm : n ≤ maxLen) (hn : l.length = n) (hx : StrsAt w b1 o1 l) (hy : StrsAt w b2 o2 l) :
    Calls Try.prog 13 #[.slice (some ⟨b1, o1, none⟩) n c, .slice (some ⟨b2, o2, none⟩) n d] w fun e w' => e = .returned (.bool true) ∧ Ext w w' := by
  unfold maxLen at hm
  have HX : Hid (StrsAt w b1 o1 l) := hx
  have HY : Hid (StrsAt w b2 o2 l) := hy
  clear hx hy
  have hnn : ((n : Int) != (n : Int)) = false := by simp
  go_enter Try.func13, Try.ntmps13
  go_wp2
  go_loopw [5] (fun i wr => ∃ k : Nat, k ≤ n ∧ i = .int .i64 k ∧ Ext w wr) (fun i _ => n - (intOf i).toNat)
  case atStart => exact ⟨0, by omega, rfl, Ext.refl _⟩
  case round =>
    obtain ⟨k, hk, rfl, he⟩ := hrel
    by_cases hlt : k < n
    · have h1 := he.cell (HX.out k (by omega))
      have h2 := he.cell (HY.out k (by omega))
      generalize hs : l[k]'(by omega) = s at h1 h2
      have q1 : decide (s.toList = s.toList) = true := by simp
      have q2 : (s.toList == s.toList) = true := by simp
      have q3 : (s.toList != s.toList) = false := by simp
      go_wp2
      go_region
      go_wp2
      go_roundw
      case rel => exact ⟨k + 1, by omega, by go_num, by first | exact he.drew | exact he⟩
      case measure => simp [intOf]; omega
    · obtain rfl : k = n := by omega
      go_wp2
      go_ret
      exact ⟨rfl, he⟩

theorem same_texts (p q : Option Addr) (n m c d : Nat) (l : List ByteArray) (w : World) (hx : Texts w p n l) (hy : Texts w q m l) :
    Calls Try.prog 13 #[.slice p n c, .slice q m d] w fun e w' => e = .returned (.bool true) ∧ Ext w w' := by
  obtain ⟨x1, x2, x3, x4⟩ := hx
  obtain ⟨y1, y2, y3, y4⟩ := hy
  obtain rfl : n = m := by omega
  rcases x4 with rfl | ⟨b1, o1, rfl, hs1⟩
  · exact same_texts_nil p q c d w
  · rcases y4 with rfl | ⟨b2, o2, rfl, hs2⟩
    · exact same_texts_nil _ q c d w
    · exact same_texts_some b1 o1 b2 o2 n c d l w x2 x1 hs1 hs2

end Go.Proofs.Ythkccaifabpleaa
