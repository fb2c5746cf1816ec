/- What Check answers: why a list is no vector. -/
import Derived.Test.YtdgjjlffdfpkcaaDots
namespace Go.Proofs.Ytdgjjlffdfpkcaa
open Go.RowKit

theorem vec_dot_at (d : Dot) (w : World) :
    Calls Try.prog 48 #[.agg #[.int .i64 d.1, .int .i64 d.2]] w fun e w' => e = .returned (.int .i64 (Vec.dotE d : Nat)) ∧ Ext w w' := vec_dot d.1 d.2 w

set_option maxRecDepth 100000 in
theorem vec_check_nil (p : Option Addr) (c : Nat) (w : World) :
    Calls Try.prog 27 #[.slice p 0 c] w fun e w' => e = .returned (.int .i64 0) ∧ Ext w w' := by
  go_enter Try.func27, Try.ntmps27
  go_wp2
  refine wp_loop_rounds 1 ?_
  rw [rounds_succ]
  go_wp2
  go_ret
  exact ⟨rfl, Ext.refl _⟩

set_option maxRecDepth 100000 in
set_option maxHeartbeats 400000 in
theorem vec_check_some (b off n c : Nat) (l : List Dot) (w : World) (hn : l.length = n) (hm : n ≤ 70368744177664) (hl : DotsAt w b off l) :
    Calls Try.prog 27 #[.slice (some ⟨b, off, none⟩) n c] w fun e w' => e = .returned (.int .i64 (Vec.checkE (-1) l : Nat)) ∧ Ext w w' := by
  have HL : Hid (DotsAt w b off l) := hl
  have HN := Lib.hid hn
  clear hl hn
  obtain ⟨r, hr⟩ : ∃ r, Vec.checkE (-1) l = r := ⟨_, rfl⟩
  rw [hr]
  have HR := Lib.hid hr
  clear hr
  go_enter Try.func27, Try.ntmps27
  go_wp2
  go_loopw [3, 9] (fun t i wr => ∃ (k : Nat) (last : Int), k ≤ n ∧ i = .int .i64 k ∧ t = .int .i64 last ∧ Vec.checkE last (l.drop k) = r ∧ Ext w wr) (fun _ i _ => n - (intOf i).toNat)
  case atStart => exact ⟨0, -1, by omega, rfl, rfl, HR.out, Ext.refl _⟩
  case round =>
    obtain ⟨k, last, hk, rfl, rfl, hck, he⟩ := hrel
    by_cases hlt : k < n
    · have hkl : k < l.length := by rw [HN.out]; exact hlt
      have h1 := he.cell (HL.out k hkl).1
      have h2 := he.cell (HL.out k hkl).2
      rw [List.drop_eq_getElem_cons hkl, Vec.checkE] at hck
      generalize l[k] = d at h1 h2 hck
      obtain ⟨q, hq⟩ : ∃ q, Vec.dotE d = q := ⟨_, rfl⟩
      rw [hq] at hck
      have HQ := Lib.hid hq
      have hA := he.alloc (.cells #[.int .i64 d.1, .int .i64 d.2] 26)
      have hc0 := alloc_cell wr #[.int .i64 d.1, .int .i64 d.2] 26 0
      by_cases h0 : q = 0
      · subst h0
        rw [if_neg (by simp)] at hck
        by_cases hp : d.1 ≤ last
        · rw [if_pos hp] at hck
          subst hck
          clear hq
          go_wp2_with fail
          refine (vec_dot_at d _).mono ?_
          rw [HQ.out]
          rintro e w2 ⟨rfl, g2⟩
          have g3 := g2.cell hc0
          go_wp2
          go_ret
          exact ⟨rfl, hA.trans g2⟩
        · rw [if_neg hp] at hck
          have HK := Lib.hid hck
          clear hq hck
          go_wp2_with fail
          refine (vec_dot_at d _).mono ?_
          rw [HQ.out]
          rintro e w2 ⟨rfl, g2⟩
          have g3 := g2.cell hc0
          go_wp2
          go_roundw
          case rel => exact ⟨k + 1, d.1, by omega, by go_num, rfl, HK.out, hA.trans g2⟩
          case measure => simp [intOf]; omega
      · rw [if_pos h0] at hck
        subst hck
        have hq0 : ((q : Int) != 0) = true := by rw [bne_iff_ne]; omega
        clear hq
        go_wp2_with fail
        refine (vec_dot_at d _).mono ?_
        rw [HQ.out]
        rintro e w2 ⟨rfl, g2⟩
        go_wp2
        go_ret
        exact ⟨rfl, hA.trans g2⟩
    · obtain rfl : k = n := by omega
      rw [List.drop_eq_nil_of_le (by rw [HN.out]; omega)] at hck
      obtain rfl : 0 = r := hck
      go_wp2
      go_ret
      exact ⟨rfl, he⟩

/-- What Check answers. -/
theorem vec_check (p : Option Addr) (n c : Nat) (l : List Dot) (w : World) (h : Dots w p n l) :
    Calls Try.prog 27 #[.slice p n c] w fun e w' => e = .returned (.int .i64 (Vec.checkE (-1) l : Nat)) ∧ Ext w w' := by
  obtain ⟨h1, h2, _, rfl | ⟨b, off, rfl, h4⟩⟩ := h
  · obtain rfl : l = [] := List.eq_nil_of_length_eq_zero h1
    exact vec_check_nil p c w
  · exact vec_check_some b off n c l w h1 h2 h4

end Go.Proofs.Ytdgjjlffdfpkcaa
