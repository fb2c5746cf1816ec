/- What the document's Dot, Check and Get answer. -/
import Derived.Test.YtdgjjlffdfpkcaaVecPlain
import Derived.BigQuiet
namespace Go.Proofs.Ytdgjjlffdfpkcaa
open Go.RowKit

set_option maxRecDepth 100000 in
theorem ref_dot (x y : Int) (w : World) :
    Calls Try.prog 31 #[.agg #[.int .i64 x, .int .i64 y]] w fun e w' => e = .returned (.int .i64 (Vec.dotE (x, y) : Nat)) ∧ Ext w w' := by
  by_cases h : x < 0 ∨ 64 ≤ x
  · rw [Vec.dotE_peer h]
    rcases (show x < 0 ∨ (0 ≤ x ∧ 63 < x) by omega) with h | ⟨h0, h⟩
    all_goals
      go_enter Try.func31, Try.ntmps31
      go_wp2
      go_ret
      exact ⟨rfl, (Ext.refl _).alloc _⟩
  · by_cases h2 : y < 1 ∨ 1048576 < y
    · rw [Vec.dotE_count h h2]
      have h0 : 0 ≤ x := by omega
      have h1 : x ≤ 63 := by omega
      rcases (show y < 1 ∨ (1 ≤ y ∧ 1048576 < y) by omega) with h | ⟨h0, h⟩
      all_goals
        go_enter Try.func31, Try.ntmps31
        go_wp2
        go_ret
        exact ⟨rfl, (Ext.refl _).alloc _⟩
    · rw [Vec.dotE_ok h h2]
      have h0 : 0 ≤ x := by omega
      have h1 : x ≤ 63 := by omega
      have h2 : 1 ≤ y := by omega
      have h3 : y ≤ 1048576 := by omega
      go_enter Try.func31, Try.ntmps31
      go_wp2
      go_ret
      exact ⟨rfl, (Ext.refl _).alloc _⟩

theorem ref_dot_at (d : Dot) (w : World) :
    Calls Try.prog 31 #[.agg #[.int .i64 d.1, .int .i64 d.2]] w fun e w' => e = .returned (.int .i64 (Vec.dotE d : Nat)) ∧ Ext w w' := ref_dot d.1 d.2 w

theorem Ext.drewN {a w : World} (h : Ext a w) (k : Nat) : Ext a (w.drewN k) := ⟨h.os, h.tape, h.output, h.size, fun _ hk => h.block hk⟩

/-- The peer of the dot ahead of a place; -1 at the first. -/
def lastAt (l : List Dot) (k : Nat) : Int := match k with | 0 => -1 | k + 1 => match l[k]? with | some d => d.1 | none => -1
theorem lastAt_succ {l : List Dot} {k : Nat} (h : k < l.length) : lastAt l (k + 1) = l[k].1 := by simp [lastAt, h]

set_option maxRecDepth 100000 in
theorem ref_check_nil (p : Option Addr) (c : Nat) (w : World) :
    Calls Try.prog 30 #[.slice p 0 c] w fun e w' => e = .returned (.int .i64 0) ∧ Ext w w' := by
  go_enter Try.func30, Try.ntmps30
  go_wp2
  refine wp_loop_rounds 1 ?_
  rw [rounds_succ]
  go_wp2
  go_ret
  exact ⟨rfl, Ext.refl _⟩

set_option maxRecDepth 100000 in
set_option maxHeartbeats 1000000 in
theorem ref_check_some (b off n c : Nat) (l : List Dot) (w : World) (hn : l.length = n) (hm : n ≤ 70368744177664) (hl : DotsAt w b off l) :
    Calls Try.prog 30 #[.slice (some ⟨b, off, none⟩) n c] w fun e w' => e = .returned (.int .i64 (Vec.checkE (-1) l : Nat)) ∧ Ext w w' := by
  have HL : Hid (DotsAt w b off l) := hl
  have HN := Lib.hid hn
  clear hl hn
  obtain ⟨r, hr⟩ : ∃ r, Vec.checkE (-1) l = r := ⟨_, rfl⟩
  rw [hr]
  have HR := Lib.hid hr
  clear hr
  go_enter Try.func30, Try.ntmps30
  go_wp2
  go_loopw [3] (fun i wr => ∃ (k : Nat), k ≤ n ∧ i = .int .i64 k ∧ Vec.checkE (lastAt l k) (l.drop k) = r ∧ Ext w wr) (fun i _ => n - (intOf i).toNat)
  case atStart => exact ⟨0, by omega, rfl, HR.out, Ext.refl _⟩
  case round =>
    obtain ⟨k, hk, rfl, hck, he⟩ := hrel
    by_cases hlt : k < n
    · have hkl : k < l.length := by rw [HN.out]; exact hlt
      have h1 := he.cell (HL.out k hkl).1
      have h2 := he.cell (HL.out k hkl).2
      rw [List.drop_eq_getElem_cons hkl, Vec.checkE] at hck
      have hla := Lib.hid (lastAt_succ hkl)
      generalize l[k] = d at h1 h2 hck hla
      obtain ⟨q, hq⟩ : ∃ q, Vec.dotE d = q := ⟨_, rfl⟩
      rw [hq] at hck
      have HQ := Lib.hid hq
      by_cases h0 : q = 0
      · subst h0
        rw [if_neg (by simp)] at hck
        cases k with
        | zero =>
          have hz := Vec.dotE_zero hq
          rw [if_neg (by simp [lastAt]; omega)] at hck
          have HK := Lib.hid hck
          clear hq hck hz
          simp only [Nat.zero_mul, Nat.add_zero] at h1 h2
          have e0 : ((0 : Nat) : Int) = 0 := rfl
          rw [e0]
          go_wp2_with fail
          refine (ref_dot_at d _).mono ?_
          rw [HQ.out]
          rintro e w2 ⟨rfl, g2⟩
          go_wp2
          go_quiet (fail)
          go_wp2
          go_roundw
          case rel => exact ⟨1, by omega, rfl, by rw [hla.out]; exact HK.out, he.trans (g2.drewN _)⟩
          case measure => simp [intOf]; omega
        | succ k =>
          have hkl2 : k < l.length := by omega
          have h3 := he.cell (HL.out k hkl2).1
          rw [lastAt_succ hkl2] at hck
          generalize l[k] = d0 at h3 hck
          clear hq
          by_cases hp : d.1 ≤ d0.1
          · rw [if_pos hp] at hck
            subst hck
            go_wp2_with fail
            refine (ref_dot_at d _).mono ?_
            rw [HQ.out]
            rintro e w2 ⟨rfl, g2⟩
            have g1 := g2.cell h1
            have g3 := g2.cell h3
            go_wp2
            go_quiet (fail)
            go_wp2
            go_ret
            exact ⟨rfl, he.trans (g2.drewN _)⟩
          · rw [if_neg hp] at hck
            have HK := Lib.hid hck
            clear hck
            go_wp2_with fail
            refine (ref_dot_at d _).mono ?_
            rw [HQ.out]
            rintro e w2 ⟨rfl, g2⟩
            have g1 := g2.cell h1
            have g3 := g2.cell h3
            go_wp2
            go_quiet (fail)
            go_wp2
            go_roundw
            case rel => exact ⟨k + 1 + 1, by omega, by go_num, by rw [hla.out]; exact HK.out, he.trans (g2.drewN _)⟩
            case measure => simp [intOf]; omega
      · rw [if_pos h0] at hck
        subst hck
        have hq0 : ((q : Int) != 0) = true := by rw [bne_iff_ne]; omega
        clear hq
        go_wp2_with fail
        refine (ref_dot_at d _).mono ?_
        rw [HQ.out]
        rintro e w2 ⟨rfl, g2⟩
        go_wp2
        go_ret
        exact ⟨rfl, he.trans g2⟩
    · obtain rfl : k = n := by omega
      rw [List.drop_eq_nil_of_le (by rw [HN.out]; omega)] at hck
      obtain rfl : 0 = r := hck
      go_wp2
      go_ret
      exact ⟨rfl, he⟩

/-- What the document's Check answers. -/
theorem ref_check (p : Option Addr) (n c : Nat) (l : List Dot) (w : World) (h : Dots w p n l) :
    Calls Try.prog 30 #[.slice p n c] w fun e w' => e = .returned (.int .i64 (Vec.checkE (-1) l : Nat)) ∧ Ext w w' := by
  obtain ⟨h1, h2, _, rfl | ⟨b, off, rfl, h4⟩⟩ := h
  · obtain rfl : l = [] := List.eq_nil_of_length_eq_zero h1
    exact ref_check_nil p c w
  · exact ref_check_some b off n c l w h1 h2 h4

/-- How many changes of a peer a list has: none where it is no vector. -/
def getL (l : List Dot) (p : Int) : Int := if Vec.checkE (-1) l = 0 then Vec.cnt l p else 0

set_option maxRecDepth 100000 in
set_option maxHeartbeats 1000000 in
theorem ref_get_some (b off n c : Nat) (l : List Dot) (p : Int) (w : World) (hn : l.length = n) (hm : n ≤ 70368744177664) (hd : Dots w (some ⟨b, off, none⟩) n l) (hl : DotsAt w b off l) :
    Calls Try.prog 33 #[.slice (some ⟨b, off, none⟩) n c, .int .i64 p] w fun e w' => e = .returned (.int .i64 (getL l p)) ∧ Ext w w' := by
  have HL : Hid (DotsAt w b off l) := hl
  have HN := Lib.hid hn
  have hck := ref_check _ n c l w hd
  clear hl hn hd
  obtain ⟨r, hr⟩ : ∃ r, getL l p = r := ⟨_, rfl⟩
  rw [hr]
  unfold getL at hr
  obtain ⟨q, hq⟩ : ∃ q, Vec.checkE (-1) l = q := ⟨_, rfl⟩
  rw [hq] at hck hr
  have HC := Lib.hid hck
  by_cases h0 : q = 0
  · subst h0
    rw [if_pos rfl] at hr
    have HR := Lib.hid hr
    clear hr hq hck
    go_enter Try.func33, Try.ntmps33
    go_wp2_with fail
    refine HC.out.mono ?_
    rintro e w2 ⟨rfl, g2⟩
    clear HC
    go_wp2
    go_loopw [5] (fun i wr => ∃ (k : Nat), k ≤ n ∧ i = .int .i64 k ∧ Vec.cnt (l.drop k) p = r ∧ Ext w wr) (fun i _ => n - (intOf i).toNat)
    case atStart => exact ⟨0, by omega, rfl, HR.out, g2⟩
    case round =>
      obtain ⟨k, hk, rfl, hck, he⟩ := hrel
      by_cases hlt : k < n
      · have hkl : k < l.length := by rw [HN.out]; exact hlt
        have h1 := he.cell (HL.out k hkl).1
        have h2 := he.cell (HL.out k hkl).2
        rw [List.drop_eq_getElem_cons hkl, Vec.cnt] at hck
        generalize l[k] = d at h1 h2 hck
        by_cases hp : d.1 = p
        · rw [if_pos hp] at hck
          subst hp
          have HK := Lib.hid hck
          clear hck
          go_wp2
          go_ret
          exact ⟨by rw [HK.out]; rfl, he⟩
        · rw [if_neg hp] at hck
          have HK := Lib.hid hck
          have hp2 : (d.1 == p) = false := by rw [beq_eq_false_iff_ne]; exact hp
          clear hck
          go_wp2
          go_roundw
          case rel => exact ⟨k + 1, by omega, by go_num, HK.out, he⟩
          case measure => simp [intOf]; omega
      · obtain rfl : k = n := by omega
        rw [List.drop_eq_nil_of_le (by rw [HN.out]; omega)] at hck
        obtain rfl : 0 = r := hck
        go_wp2
        go_ret
        exact ⟨rfl, he⟩
  · rw [if_neg h0] at hr
    subst hr
    have hq0 : ((q : Int) != 0) = true := by rw [bne_iff_ne]; omega
    clear hq hck
    go_enter Try.func33, Try.ntmps33
    go_wp2_with fail
    refine HC.out.mono ?_
    rintro e w2 ⟨rfl, g2⟩
    go_wp2
    go_ret
    exact ⟨rfl, g2⟩

set_option maxRecDepth 100000 in
theorem ref_get_nil (q : Option Addr) (c : Nat) (p : Int) (w : World) :
    Calls Try.prog 33 #[.slice q 0 c, .int .i64 p] w fun e w' => e = .returned (.int .i64 0) ∧ Ext w w' := by
  go_enter Try.func33, Try.ntmps33
  go_wp2_with fail
  refine (ref_check_nil q c _).mono ?_
  rintro e w2 ⟨rfl, g2⟩
  go_wp2
  refine wp_loop_rounds 1 ?_
  rw [rounds_succ]
  go_wp2
  go_ret
  exact ⟨rfl, g2⟩

/-- What the document's Get answers. -/
theorem ref_get (v : Value) (l : List Dot) (p : Int) (w : World) (h : DotsV w v l) :
    Calls Try.prog 33 #[v, .int .i64 p] w fun e w' => e = .returned (.int .i64 (getL l p)) ∧ Ext w w' := by
  obtain ⟨q, c, rfl, _, _, hd⟩ := h
  have hd2 := hd
  obtain ⟨h1, h2, _, h3 | ⟨b, off, rfl, h4⟩⟩ := hd
  · obtain rfl : l = [] := List.eq_nil_of_length_eq_zero h3
    exact ref_get_nil q c p w
  · exact ref_get_some b off _ c l p w h1 h2 hd2 h4

end Go.Proofs.Ytdgjjlffdfpkcaa
