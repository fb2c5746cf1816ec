/- What Check answers: why a list is no vector. What right answers: whether all of some lists are vectors. -/
import Derived.Test.YtdgjjlffdfpkcaaDots

namespace Go.Proofs.Ytdgjjlffdfpkcaa
open Go.RowKit

theorem vec_dot_at (d : Dot) (w : World) :
    Calls Try.prog 48 #[.agg #[.int .i64 d.1, .int .i64 d.2]] w fun e w' => e = .returned (.int .i64 (Vec.dotE d : Nat)) ∧ Ext w w' := vec_dot d.1 d.2 w

set_option maxRecDepth 100000 in
theorem vec_check_nil (p : Option Addr) (c : Nat) (w : World) :
    Calls Try.prog 27 #[.slice p 0 c] w fun e w' => e = .returned (.int .i64 0) ∧ Ext w w' := by
  go_enter Try.func27, Try.ntmps27
  go_wp2
  refine wp_loop_rounds 1 ?_
  rw [rounds_succ]
  go_wp2
  go_ret
  exact ⟨rfl, Ext.refl _⟩

set_option maxRecDepth 100000 in
set_option maxHeartbeats 400000 in
theorem vec_check_some (b off n c : Nat) (l : List Dot) (w : World) (hn : l.length = n) (hm : n ≤ 70368744177664) (hl : DotsAt w b off l) :
    Calls Try.prog 27 #[.slice (some ⟨b, off, none⟩) n c] w fun e w' => e = .returned (.int .i64 (Vec.checkE (-1) l : Nat)) ∧ Ext w w' := by
  have HL : Hid (DotsAt w b off l) := hl
  have HN := Lib.hid hn
  clear hl hn
  obtain ⟨r, hr⟩ : ∃ r, Vec.checkE (-1) l = r := ⟨_, rfl⟩
  rw [hr]
  have HR := Lib.hid hr
  clear hr
  go_enter Try.func27, Try.ntmps27
  go_wp2
  go_loopw [3, 9] (fun t i wr => ∃ (k : Nat) (last : Int), k ≤ n ∧ i = .int .i64 k ∧ t = .int .i64 last ∧ Vec.checkE last (l.drop k) = r ∧ Ext w wr) (fun _ i _ => n - (intOf i).toNat)
  case atStart => exact ⟨0, -1, by omega, rfl, rfl, HR.out, Ext.refl _⟩
  case round =>
    obtain ⟨k, last, hk, rfl, rfl, hck, he⟩ := hrel
    by_cases hlt : k < n
    · have hkl : k < l.length := by rw [HN.out]; exact hlt
      have h1 := he.cell (HL.out k hkl).1
      have h2 := he.cell (HL.out k hkl).2
      rw [List.drop_eq_getElem_cons hkl, Vec.checkE] at hck
      generalize l[k] = d at h1 h2 hck
      obtain ⟨q, hq⟩ : ∃ q, Vec.dotE d = q := ⟨_, rfl⟩
      rw [hq] at hck
      have HQ := Lib.hid hq
      have hA := he.alloc (.cells #[.int .i64 d.1, .int .i64 d.2] 26)
      have hc0 := alloc_cell wr #[.int .i64 d.1, .int .i64 d.2] 26 0
      by_cases h0 : q = 0
      · subst h0
        rw [if_neg (by simp)] at hck
        by_cases hp : d.1 ≤ last
        · rw [if_pos hp] at hck
          subst hck
          clear hq
          go_wp2_with fail
          refine (vec_dot_at d _).mono ?_
          rw [HQ.out]
          rintro e w2 ⟨rfl, g2⟩
          have g3 := g2.cell hc0
          go_wp2
          go_ret
          exact ⟨rfl, hA.trans g2⟩
        · rw [if_neg hp] at hck
          have HK := Lib.hid hck
          clear hq hck
          go_wp2_with fail
          refine (vec_dot_at d _).mono ?_
          rw [HQ.out]
          rintro e w2 ⟨rfl, g2⟩
          have g3 := g2.cell hc0
          go_wp2
          go_roundw
          case rel => exact ⟨k + 1, d.1, by omega, by go_num, rfl, HK.out, hA.trans g2⟩
          case measure => simp [intOf]; omega
      · rw [if_pos h0] at hck
        subst hck
        have hq0 : ((q : Int) != 0) = true := by rw [bne_iff_ne]; omega
        clear hq
        go_wp2_with fail
        refine (vec_dot_at d _).mono ?_
        rw [HQ.out]
        rintro e w2 ⟨rfl, g2⟩
        go_wp2
        go_ret
        exact ⟨rfl, hA.trans g2⟩
    · obtain rfl : k = n := by omega
      rw [List.drop_eq_nil_of_le (by rw [HN.out]; omega)] at hck
      obtain rfl : 0 = r := hck
      go_wp2
      go_ret
      exact ⟨rfl, he⟩

/-- What Check answers. -/
theorem vec_check (p : Option Addr) (n c : Nat) (l : List Dot) (w : World) (h : Dots w p n l) :
    Calls Try.prog 27 #[.slice p n c] w fun e w' => e = .returned (.int .i64 (Vec.checkE (-1) l : Nat)) ∧ Ext w w' := by
  obtain ⟨h1, h2, _, rfl | ⟨b, off, rfl, h4⟩⟩ := h
  · obtain rfl : l = [] := List.eq_nil_of_length_eq_zero h1
    exact vec_check_nil p c w
  · exact vec_check_some b off n c l w h1 h2 h4

end Go.Proofs.Ytdgjjlffdfpkcaa

namespace Go.Proofs.Ytdgjjlffdfpkcaa
open Go.RowKit

/-- A slice of lists of dots, in a block. -/
structure Row where
  p : Option Addr
  n : Nat
  c : Nat
  l : List Dot

def RowsAt (w : World) (g : Nat) (L : List Row) : Prop := ∀ i (h : i < L.length), w.cell? ⟨g, i, none⟩ = some (.slice L[i].p L[i].n L[i].c) ∧ Dots w L[i].p L[i].n L[i].l

theorem RowsAt.ext {w w' : World} {g : Nat} {L : List Row} (h : RowsAt w g L) (he : Ext w w') : RowsAt w' g L := fun i hi => ⟨he.cell (h i hi).1, (h i hi).2.ext he⟩

/-- A list is no vector. -/
def bad (r : Row) : Bool := decide (Vec.checkE (-1) r.l ≠ 0)

set_option maxRecDepth 100000 in
theorem vec_right1 (p : Option Addr) (n c : Nat) (l : List Dot) (w : World) (h : Dots w p n l) :
    Calls Try.prog 66 #[.slice p n c] w fun e w' => e = .returned (.bool (bad ⟨p, n, c, l⟩)) ∧ Ext w w' := by
  obtain ⟨q, hq⟩ : ∃ q, Vec.checkE (-1) l = q := ⟨_, rfl⟩
  unfold bad
  simp only [hq]
  have HQ := Lib.hid hq
  clear hq
  by_cases h0 : q = 0
  · subst h0
    go_enter Try.func66, Try.ntmps66
    go_wp2_with fail
    refine (vec_check p n c l _ h).mono ?_
    rw [HQ.out]
    rintro e w2 ⟨rfl, g2⟩
    go_wp2
    go_ret
    exact ⟨rfl, g2⟩
  · have hq0 : ((q : Int) != 0) = true := by rw [bne_iff_ne]; omega
    have hd : decide (q ≠ 0) = true := decide_eq_true h0
    rw [hd]
    go_enter Try.func66, Try.ntmps66
    go_wp2_with fail
    refine (vec_check p n c l _ h).mono ?_
    rw [HQ.out]
    rintro e w2 ⟨rfl, g2⟩
    go_wp2
    go_ret
    exact ⟨rfl, g2⟩

set_option maxRecDepth 100000 in
set_option maxHeartbeats 400000 in
theorem vec_index (g n : Nat) (L : List Row) (w : World) (hn : L.length = n) (hm : n ≤ maxLen) (hl : RowsAt w g L) :
    Calls Try.prog 82 #[.slice (some ⟨g, 0, none⟩) n n, .func (.func 66) #[] #[]] w
      fun e w' => ∃ r : Int, e = .returned (.int .i64 r) ∧ (decide (r ≥ 0)) = L.any bad ∧ Ext w w' := by
  unfold maxLen at hm
  have HL : Hid (RowsAt w g L) := hl
  have HN := Lib.hid hn
  clear hl hn
  obtain ⟨r, hr⟩ : ∃ r, L.any bad = r := ⟨_, rfl⟩
  rw [hr]
  have HR := Lib.hid hr
  clear hr
  go_enter Try.func82, Try.ntmps82
  go_wp2
  go_loopw [8] (fun i wr => ∃ (k : Nat), k ≤ n ∧ i = .int .i64 k ∧ (L.drop k).any bad = r ∧ Ext w wr) (fun i _ => n - (intOf i).toNat)
  case atStart => exact ⟨0, by omega, rfl, HR.out, Ext.refl _⟩
  case round =>
    obtain ⟨k, hk, rfl, hck, he⟩ := hrel
    by_cases hlt : k < n
    · have hkl : k < L.length := by rw [HN.out]; exact hlt
      have h1 := he.cell (HL.out k hkl).1
      have h2 := (HL.out k hkl).2.ext he
      rw [List.drop_eq_getElem_cons hkl, List.any_cons] at hck
      generalize L[k] = R at h1 h2 hck
      obtain ⟨p, n1, c, l⟩ := R
      simp only at h1 h2
      obtain ⟨q, hq⟩ : ∃ q, bad ⟨p, n1, c, l⟩ = q := ⟨_, rfl⟩
      rw [hq] at hck
      have HQ := Lib.hid hq
      have HK := Lib.hid hck
      clear hck hq
      cases q with
      | true =>
        go_wp2_with fail
        refine (vec_right1 p n1 c l _ h2).mono ?_
        rw [HQ.out]
        rintro e w2 ⟨rfl, g2⟩
        go_wp2
        go_ret
        exact ⟨k, rfl, by rw [← HK.out]; simp, he.trans g2⟩
      | false =>
        go_wp2_with fail
        refine (vec_right1 p n1 c l _ h2).mono ?_
        rw [HQ.out]
        rintro e w2 ⟨rfl, g2⟩
        go_wp2
        go_roundw
        case rel => exact ⟨k + 1, by omega, by go_num, by rw [← HK.out]; rfl, he.trans g2⟩
        case measure => simp [intOf]; omega
    · obtain rfl : k = n := by omega
      rw [List.drop_eq_nil_of_le (by rw [HN.out]; omega)] at hck
      obtain rfl : false = r := hck
      go_wp2
      go_ret
      exact ⟨-1, rfl, rfl, he⟩

set_option maxRecDepth 100000 in
theorem vec_contains (g n : Nat) (L : List Row) (w : World) (hn : L.length = n) (hm : n ≤ maxLen) (hl : RowsAt w g L) :
    Calls Try.prog 65 #[.slice (some ⟨g, 0, none⟩) n n, .func (.func 66) #[] #[]] w
      fun e w' => e = .returned (.bool (L.any bad)) ∧ Ext w w' := by
  go_enter Try.func65, Try.ntmps65
  go_wp2_with fail
  refine (vec_index g n L _ hn hm hl).mono ?_
  rintro e w2 ⟨r, rfl, hr, g2⟩
  have HR := Lib.hid hr
  clear hr
  by_cases h0 : r ≥ 0
  all_goals
    go_wp2
    go_ret
    exact ⟨by rw [← HR.out]; first | rfl | simp [h0], g2⟩

set_option maxRecDepth 100000 in
theorem vec_right (g n : Nat) (L : List Row) (w : World) (hn : L.length = n) (hm : n ≤ maxLen) (hl : RowsAt w g L) :
    Calls Try.prog 51 #[.slice (some ⟨g, 0, none⟩) n n] w fun e w' => e = .returned (.bool (!L.any bad)) ∧ Ext w w' := by
  go_enter Try.func51, Try.ntmps51
  go_wp2_with fail
  refine (vec_contains g n L _ hn hm hl).mono ?_
  rintro e w2 ⟨rfl, g2⟩
  go_wp2
  go_ret
  exact ⟨rfl, g2⟩

end Go.Proofs.Ytdgjjlffdfpkcaa
