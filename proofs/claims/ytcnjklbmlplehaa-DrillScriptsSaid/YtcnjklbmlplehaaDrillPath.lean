/- A path that is drawn. -/
import Derived.Test.YtcnjklbmlplehaaDrillKind
import Derived.WalkLawsBesides
namespace Go.Proofs.Ytcnjklbmlplehaa
open Go.RowKit

namespace DR
def slash : ByteArray := ⟨#[47]⟩
/-- A letter that is drawn. -/
def letter (s n : Int) : ByteArray := Utf8.encode (97 + bel s n)
/-- The first pieces of a path, and the draw behind them. -/
def pathS : Nat → Int → ByteArray × Int
  | 0, s => (⟨#[]⟩, s)
  | k + 1, s => ((if 0 < k then (pathS k s).1 ++ slash else (pathS k s).1) ++ letter (pathS k s).2 3, nxt (pathS k s).2)
def pieces (s : Int) : Nat := (1 + bel s 3).toNat
def pathOf (s : Int) : ByteArray := (pathS (pieces s) (nxt s)).1
def pathEnd (s : Int) : Int := (pathS (pieces s) (nxt s)).2
theorem encode_low (k : Int) (h0 : 0 ≤ k) (h1 : k < 26) : Utf8.encode (97 + k) = ⟨#[(97 + k.toNat).toUInt8]⟩ := by
  have hk : ∀ m : Fin 26, Utf8.encode (97 + ((m.val : Nat) : Int)) = ⟨#[(97 + m.val).toUInt8]⟩ := by decide +kernel
  have := hk ⟨k.toNat, by omega⟩
  simp only at this
  rw [show ((k.toNat : Nat) : Int) = k by omega] at this
  exact this
theorem letter_size (s n : Int) (h1 : 1 ≤ n) (h2 : n ≤ 26) : (letter s n).size = 1 := by
  have hb := bel_bounds s n h1
  unfold letter
  rw [encode_low _ hb.1 (by omega)]
  rfl
theorem path_size (k : Nat) (s : Int) : (pathS k s).1.size + 1 = 2 * k ∨ (k = 0 ∧ (pathS k s).1.size = 0) := by
  induction k with
  | zero => exact .inr ⟨rfl, rfl⟩
  | succ k ih =>
    refine .inl ?_
    show ((if 0 < k then (pathS k s).1 ++ slash else (pathS k s).1) ++ letter (pathS k s).2 3).size + 1 = _
    rw [ByteArray.size_append, letter_size _ _ (by omega) (by omega)]
    by_cases h : 0 < k
    · rw [if_pos h, ByteArray.size_append]
      have : slash.size = 1 := rfl
      omega
    · rw [if_neg h]
      omega
theorem pieces_bounds (s : Int) : 1 ≤ pieces s ∧ pieces s ≤ 3 ∧ ((pieces s : Nat) : Int) = 1 + bel s 3 := by
  have := bel_bounds s 3 (by omega)
  unfold pieces
  omega
end DR

set_option maxRecDepth 100000 in
set_option maxHeartbeats 1000000 in
theorem draw_path (D : Nat) (s : Int) (g : Value) (w : World) (h : Drawer w D s g) :
    Calls Try.prog 36 #[.pointer (some ⟨D, 0, none⟩)] w fun e w' => e = .returned (.string (DR.pathOf s)) ∧ Drawer w' D (DR.pathEnd s) g ∧ w.grownBy w' (some D) := by
  have h1 := draw_below D s 3 g w h (by omega) (by omega)
  have H1 := Lib.hid h1
  have g1 : w.grownBy (w.setCell ⟨D, 0, none⟩ (.int .i64 (DR.nxt s))) (some D) := grown_setCell _ _ _ _
  have d1 : Drawer (w.setCell ⟨D, 0, none⟩ (.int .i64 (DR.nxt s))) D (DR.nxt s) g := Two.set0 h _
  obtain ⟨hp1, hp2, hp3⟩ := DR.pieces_bounds s
  have hbb := DR.bel_bounds s 3 (by omega)
  clear h1 h
  unfold DR.pathOf DR.pathEnd
  generalize DR.pieces s = m at *
  generalize DR.nxt s = s1 at *
  generalize w.setCell ⟨D, 0, none⟩ (.int .i64 s1) = w1 at *
  generalize DR.bel s 3 = k1 at *
  have hk : k1 = (m : Int) - 1 := by omega
  subst hk
  have hp4 : (1 : Int) + ((m : Int) - 1) = m := by omega
  have hw : wrap64 (m : Int) = m := by unfold wrap64; omega
  have HG1 := Lib.hid g1
  have HD1 := Lib.hid d1
  clear g1 d1 hp3 hbb
  go_enter Try.func36, Try.ntmps36
  go_wp2_with fail
  refine H1.out.mono ?_
  rintro e w2 ⟨rfl, rfl⟩
  go_wp2
  go_loopw [3, 8] (fun t i W => ∃ (k : Nat) (x : ByteArray) (y : Int), k ≤ m ∧ i = .int .i64 k ∧ t = .string x ∧ Drawer W D y g ∧ w.grownBy W (some D) ∧ Hid (DR.pathS k s1 = (x, y)) ∧ x.size ≤ 2 * k) (fun _ i _ => m - (intOf i).toNat)
  case atStart => exact ⟨0, _, s1, by omega, rfl, rfl, HD1.out, HG1.out, Lib.hid rfl, Nat.le_refl _⟩
  case round =>
    clear HD1 HG1 H1
    obtain ⟨k, x, y, hk, rfl, rfl, hd, hg, hx, hsz⟩ := hrel
    by_cases hkm : k < m
    · have HB := Lib.hid (draw_below D y 3 g wr hd (by omega) (by omega))
      have hst : DR.pathS (k + 1) s1 = ((if 0 < k then x ++ DR.slash else x) ++ DR.letter y 3, DR.nxt y) := by
        show ((if 0 < k then (DR.pathS k s1).1 ++ DR.slash else (DR.pathS k s1).1) ++ DR.letter (DR.pathS k s1).2 3, DR.nxt (DR.pathS k s1).2) = _
        rw [hx.out]
      have hls := DR.letter_size y 3 (by omega) (by omega)
      unfold DR.letter at hst hls
      have hbb := DR.bel_bounds y 3 (by omega)
      have hd2 : Drawer (wr.setCell ⟨D, 0, none⟩ (.int .i64 (DR.nxt y))) D (DR.nxt y) g := Two.set0 hd _
      have hg2 : w.grownBy (wr.setCell ⟨D, 0, none⟩ (.int .i64 (DR.nxt y))) (some D) := grown_more hg (grown_setCell _ _ _ _)
      generalize wr.setCell ⟨D, 0, none⟩ (.int .i64 (DR.nxt y)) = w3 at *
      generalize DR.nxt y = y2 at *
      generalize DR.bel y 3 = k2 at *
      have hsa := ByteArray.size_append (a := x) (b := DR.slash)
      have hss : DR.slash.size = 1 := rfl
      by_cases h0 : 0 < k
      · rw [if_pos h0] at hst
        have hs1 : (x ++ DR.slash).size ≤ 2 * k + 1 := by omega
        have hs2 : ((x ++ DR.slash) ++ Utf8.encode (97 + k2)).size ≤ 2 * (k + 1) := by rw [ByteArray.size_append]; omega
        have HS2 := Lib.hid hs2
        have HST := Lib.hid hst
        have HD2 := Lib.hid hd2
        have HG2 := Lib.hid hg2
        have q1 : ¬ 9223372036854775807 < x.size + 1 := by omega
        have q2 : ¬ 9223372036854775807 < x.size + 1 + (Utf8.encode (97 + k2)).size := by omega
        clear hst hd2 hg2 hsa hss hs1 hs2 hls hd hg hx
        unfold DR.slash at *
        go_wp2_with fail
        refine HB.out.mono ?_
        rintro e w4 ⟨rfl, rfl⟩
        go_wp2
        go_roundw
        case rel => exact ⟨k + 1, _, y2, by omega, by go_num, rfl, HD2.out, HG2.out, HST, HS2.out⟩
        case measure => simp [intOf]; omega
      · rw [if_neg h0] at hst
        have hk0 : k = 0 := by omega
        subst hk0
        have hs2 : (x ++ Utf8.encode (97 + k2)).size ≤ 2 * (0 + 1) := by rw [ByteArray.size_append]; omega
        have HS2 := Lib.hid hs2
        have HST := Lib.hid hst
        have HD2 := Lib.hid hd2
        have HG2 := Lib.hid hg2
        have q2 : ¬ 9223372036854775807 < x.size + (Utf8.encode (97 + k2)).size := by omega
        clear hst hd2 hg2 hsa hss hs2 hls hd hg hx hsz
        go_wp2_with fail
        refine HB.out.mono ?_
        rintro e w4 ⟨rfl, rfl⟩
        go_wp2
        go_roundw
        case rel => exact ⟨1, _, y2, by omega, by go_num, rfl, HD2.out, HG2.out, HST, HS2.out⟩
        case measure => simp [intOf]; omega
    · obtain rfl : k = m := by omega
      have HD := Lib.hid hd
      have HG := Lib.hid hg
      clear hd hg
      go_wp2
      go_ret
      rw [hx.out]
      exact ⟨rfl, HD.out, HG.out⟩
end Go.Proofs.Ytcnjklbmlplehaa
