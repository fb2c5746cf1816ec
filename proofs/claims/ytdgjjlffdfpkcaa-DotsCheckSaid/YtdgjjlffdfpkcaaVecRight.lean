/- What right answers: whether all of some lists are vectors. -/
import Derived.Test.YtdgjjlffdfpkcaaVecCheck
namespace Go.Proofs.Ytdgjjlffdfpkcaa
open Go.RowKit

/-- A slice of lists of dots, in a block. -/
structure Row where
  p : Option Addr
  n : Nat
  c : Nat
  l : List Dot

def RowsAt (w : World) (g : Nat) (L : List Row) : Prop := ∀ i (h : i < L.length), w.cell? ⟨g, i, none⟩ = some (.slice L[i].p L[i].n L[i].c) ∧ Dots w L[i].p L[i].n L[i].l

theorem RowsAt.ext {w w' : World} {g : Nat} {L : List Row} (h : RowsAt w g L) (he : Ext w w') : RowsAt w' g L := fun i hi => ⟨he.cell (h i hi).1, (h i hi).2.ext he⟩

/-- A list is no vector. -/
def bad (r : Row) : Bool := decide (Vec.checkE (-1) r.l ≠ 0)

set_option maxRecDepth 100000 in
theorem vec_right1 (p : Option Addr) (n c : Nat) (l : List Dot) (w : World) (h : Dots w p n l) :
    Calls Try.prog 66 #[.slice p n c] w fun e w' => e = .returned (.bool (bad ⟨p, n, c, l⟩)) ∧ Ext w w' := by
  obtain ⟨q, hq⟩ : ∃ q, Vec.checkE (-1) l = q := ⟨_, rfl⟩
  unfold bad
  simp only [hq]
  have HQ := Lib.hid hq
  clear hq
  by_cases h0 : q = 0
  · subst h0
    go_enter Try.func66, Try.ntmps66
    go_wp2_with fail
    refine (vec_check p n c l _ h).mono ?_
    rw [HQ.out]
    rintro e w2 ⟨rfl, g2⟩
    go_wp2
    go_ret
    exact ⟨rfl, g2⟩
  · have hq0 : ((q : Int) != 0) = true := by rw [bne_iff_ne]; omega
    have hd : decide (q ≠ 0) = true := decide_eq_true h0
    rw [hd]
    go_enter Try.func66, Try.ntmps66
    go_wp2_with fail
    refine (vec_check p n c l _ h).mono ?_
    rw [HQ.out]
    rintro e w2 ⟨rfl, g2⟩
    go_wp2
    go_ret
    exact ⟨rfl, g2⟩

set_option maxRecDepth 100000 in
set_option maxHeartbeats 400000 in
theorem vec_index (g n : Nat) (L : List Row) (w : World) (hn : L.length = n) (hm : n ≤ maxLen) (hl : RowsAt w g L) :
    Calls Try.prog 82 #[.slice (some ⟨g, 0, none⟩) n n, .func (.func 66) #[] #[]] w
      fun e w' => ∃ r : Int, e = .returned (.int .i64 r) ∧ (decide (r ≥ 0)) = L.any bad ∧ Ext w w' := by
  unfold maxLen at hm
  have HL : Hid (RowsAt w g L) := hl
  have HN := Lib.hid hn
  clear hl hn
  obtain ⟨r, hr⟩ : ∃ r, L.any bad = r := ⟨_, rfl⟩
  rw [hr]
  have HR := Lib.hid hr
  clear hr
  go_enter Try.func82, Try.ntmps82
  go_wp2
  go_loopw [8] (fun i wr => ∃ (k : Nat), k ≤ n ∧ i = .int .i64 k ∧ (L.drop k).any bad = r ∧ Ext w wr) (fun i _ => n - (intOf i).toNat)
  case atStart => exact ⟨0, by omega, rfl, HR.out, Ext.refl _⟩
  case round =>
    obtain ⟨k, hk, rfl, hck, he⟩ := hrel
    by_cases hlt : k < n
    · have hkl : k < L.length := by rw [HN.out]; exact hlt
      have h1 := he.cell (HL.out k hkl).1
      have h2 := (HL.out k hkl).2.ext he
      rw [List.drop_eq_getElem_cons hkl, List.any_cons] at hck
      generalize L[k] = R at h1 h2 hck
      obtain ⟨p, n1, c, l⟩ := R
      simp only at h1 h2
      obtain ⟨q, hq⟩ : ∃ q, bad ⟨p, n1, c, l⟩ = q := ⟨_, rfl⟩
      rw [hq] at hck
      have HQ := Lib.hid hq
      have HK := Lib.hid hck
      clear hck hq
      cases q with
      | true =>
        go_wp2_with fail
        refine (vec_right1 p n1 c l _ h2).mono ?_
        rw [HQ.out]
        rintro e w2 ⟨rfl, g2⟩
        go_wp2
        go_ret
        exact ⟨k, rfl, by rw [← HK.out]; simp, he.trans g2⟩
      | false =>
        go_wp2_with fail
        refine (vec_right1 p n1 c l _ h2).mono ?_
        rw [HQ.out]
        rintro e w2 ⟨rfl, g2⟩
        go_wp2
        go_roundw
        case rel => exact ⟨k + 1, by omega, by go_num, by rw [← HK.out]; rfl, he.trans g2⟩
        case measure => simp [intOf]; omega
    · obtain rfl : k = n := by omega
      rw [List.drop_eq_nil_of_le (by rw [HN.out]; omega)] at hck
      obtain rfl : false = r := hck
      go_wp2
      go_ret
      exact ⟨-1, rfl, rfl, he⟩

set_option maxRecDepth 100000 in
theorem vec_contains (g n : Nat) (L : List Row) (w : World) (hn : L.length = n) (hm : n ≤ maxLen) (hl : RowsAt w g L) :
    Calls Try.prog 65 #[.slice (some ⟨g, 0, none⟩) n n, .func (.func 66) #[] #[]] w
      fun e w' => e = .returned (.bool (L.any bad)) ∧ Ext w w' := by
  go_enter Try.func65, Try.ntmps65
  go_wp2_with fail
  refine (vec_index g n L _ hn hm hl).mono ?_
  rintro e w2 ⟨r, rfl, hr, g2⟩
  have HR := Lib.hid hr
  clear hr
  by_cases h0 : r ≥ 0
  all_goals
    go_wp2
    go_ret
    exact ⟨by rw [← HR.out]; first | rfl | simp [h0], g2⟩

set_option maxRecDepth 100000 in
theorem vec_right (g n : Nat) (L : List Row) (w : World) (hn : L.length = n) (hm : n ≤ maxLen) (hl : RowsAt w g L) :
    Calls Try.prog 51 #[.slice (some ⟨g, 0, none⟩) n n] w fun e w' => e = .returned (.bool (!L.any bad)) ∧ Ext w w' := by
  go_enter Try.func51, Try.ntmps51
  go_wp2_with fail
  refine (vec_contains g n L _ hn hm hl).mono ?_
  rintro e w2 ⟨rfl, g2⟩
  go_wp2
  go_ret
  exact ⟨rfl, g2⟩

end Go.Proofs.Ytdgjjlffdfpkcaa
