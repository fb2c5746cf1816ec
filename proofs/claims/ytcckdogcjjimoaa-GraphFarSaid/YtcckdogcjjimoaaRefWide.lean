/- What the document's Far answers for all peers, and its Wide. -/
import Derived.Test.YtcckdogcjjimoaaRefFar
namespace Go.Proofs.Ytcckdogcjjimoaa
open Go.RowKit

set_option maxRecDepth 100000 in
set_option maxHeartbeats 1000000 in
theorem ref_far_out (v : Value) (n : Nat) (p q : Int) (w : World) (hout : ¬(0 ≤ p ∧ p < n ∧ 0 ≤ q ∧ q < n)) :
    Calls Try.prog 13 #[.int .i64 n, v, .int .i64 p, .int .i64 q] w fun e w' => e = .returned (.int .i64 (-1)) ∧ w' = w := by
  obtain ⟨b1, h1⟩ : ∃ b, decide (p < 0) = b := ⟨_, rfl⟩
  obtain ⟨b2, h2⟩ : ∃ b, decide (p ≥ (n : Int)) = b := ⟨_, rfl⟩
  obtain ⟨b3, h3⟩ : ∃ b, decide (q < 0) = b := ⟨_, rfl⟩
  obtain ⟨b4, h4⟩ : ∃ b, decide (q ≥ (n : Int)) = b := ⟨_, rfl⟩
  have hb : (((b1 || b2) || b3) || b4) = true := by
    rw [← h1, ← h2, ← h3, ← h4]
    simp only [Bool.or_eq_true, decide_eq_true_eq]
    omega
  clear hout
  go_enter Try.func13, Try.ntmps13
  cases b1 <;> cases b2 <;> cases b3 <;> cases b4
  all_goals first
    | (exact absurd hb (by decide))
    | (go_wp2
       go_ret
       exact ⟨rfl, rfl⟩)

theorem ref_far (v : Value) (l : List GR.Ed) (n : Nat) (p q : Int) (w : World) (h : EdsV w v l) (hn1 : 1 ≤ n) (hn2 : n ≤ 64) (hok : GR.OkE n l) :
    Calls Try.prog 13 #[.int .i64 n, v, .int .i64 p, .int .i64 q] w fun e w' => e = .returned (.int .i64 (GR.farZ n (GR.adjOf l) p q)) ∧ Ext w w' := by
  by_cases hin : 0 ≤ p ∧ p < n ∧ 0 ≤ q ∧ q < n
  · obtain ⟨a, rfl⟩ : ∃ a : Nat, p = (a : Int) := ⟨p.toNat, by omega⟩
    obtain ⟨b, rfl⟩ : ∃ b : Nat, q = (b : Int) := ⟨q.toNat, by omega⟩
    unfold GR.farZ
    rw [if_pos hin, Int.toNat_natCast, Int.toNat_natCast]
    exact ref_far_in v l n a b w h hn1 hn2 (by omega) (by omega) hok
  · unfold GR.farZ
    rw [if_neg hin]
    exact (ref_far_out v n p q w hin).mono fun e w' h => ⟨h.1, by rw [h.2]; exact Ext.refl _⟩

theorem row_at (n : Nat) (adj : Nat → Nat → Bool) (k x : Nat) (hx : x < n) : (GR.row n adj k)[x]'(by rw [GR.row_length]; exact hx) = GR.dz n adj k x := by
  have h := GR.row_get (n := n) (adj := adj) k x hx
  rw [List.getElem?_eq_getElem (by rw [GR.row_length]; exact hx)] at h
  injection h

set_option maxRecDepth 100000 in
set_option maxHeartbeats 2000000 in
theorem ref_wide (v : Value) (l : List GR.Ed) (n : Nat) (w : World) (h : EdsV w v l) (hn1 : 1 ≤ n) (hn2 : n ≤ 64) (hok : GR.OkE n l) :
    Calls Try.prog 11 #[.int .i64 n, v] w fun e w' => e = .returned (.tuple #[.int .i64 (GR.wide n (GR.adjOf l)), .bool (GR.whole n (GR.adjOf l))]) ∧ Ext w w' := by
  have hF := fun k x (w' : World) (hx : Ext w w') (hk : k < n) (hxn : x < n) => ref_far_in v l n k x w' (h.ext hx) hn1 hn2 hk hxn hok
  rw [← GR.wholeTo_eq (GR.gr_of hok) hn1]
  unfold GR.wide
  obtain ⟨D, hD⟩ : ∃ D : Nat → Nat → Int, GR.dz n (GR.adjOf l) = D := ⟨_, rfl⟩
  have hrow : ∀ k x (hx : x < n), (GR.row n (GR.adjOf l) k)[x]'(by rw [GR.row_length]; exact hx) = D k x := fun k x hx => by rw [row_at _ _ _ _ hx, hD]
  rw [hD] at hF
  have HF := Lib.hid hF
  have HROW := Lib.hid hrow
  clear hF hrow hD h hok
  generalize GR.adjOf l = adj at *
  go_enter Try.func11, Try.ntmps11
  go_wp2
  go_loopw [6, 7, 8] (fun mv ov i wr => ∃ (k : Nat) (m : Int) (o : Bool), k ≤ n ∧ i = .int .i64 k ∧ mv = .int .i64 m ∧ ov = .bool o ∧ Hid (m = GR.maxOf 0 (GR.rows n adj k)) ∧ Hid (o = GR.wholeTo n adj k) ∧ Ext w wr) (fun _ _ i _ => n - (intOf i).toNat)
  case atStart => exact ⟨0, 0, true, by omega, rfl, rfl, rfl, Lib.hid rfl, Lib.hid rfl, Ext.refl _⟩
  case round =>
    obtain ⟨k, m, o, hk, rfl, rfl, rfl, HMM, HOO, hx⟩ := hrel
    by_cases hlt : k < n
    · have HX := Lib.hid hx
      clear hx
      go_wp2
      go_loopw [6, 7, 9] (fun mv ov i W => ∃ (x : Nat) (m2 : Int) (o2 : Bool), x ≤ n ∧ i = .int .i64 x ∧ mv = .int .i64 m2 ∧ ov = .bool o2 ∧ Hid (m2 = GR.maxOf m ((GR.row n adj k).take x)) ∧ Hid (o2 = (o && ((GR.row n adj k).take x).all fun y => decide (0 ≤ y))) ∧ Ext w W) (fun _ _ i _ => n - (intOf i).toNat)
      case atStart => exact ⟨0, m, o, by omega, rfl, rfl, rfl, Lib.hid rfl, Lib.hid (by rw [List.take_zero, List.all_nil, Bool.and_true]), HX.out⟩
      case round =>
        clear HX
        obtain ⟨x, m2, o2, hxn, rfl, rfl, rfl, HM2, HO2, hx⟩ := hrel
        by_cases hlt2 : x < n
        · have hxl : x < (GR.row n adj k).length := by rw [GR.row_length]; exact hlt2
          have hnx := take_next (GR.row n adj k) x hxl
          rw [HROW.out k x hlt2] at hnx
          have hcall := HF.out k x wr hx hlt hlt2
          generalize D k x = y at *
          have hm3 : GR.maxOf m ((GR.row n adj k).take (x + 1)) = max m2 y := by rw [hnx, GR.maxOf_app, ← HM2.out]; rfl
          have ho3 : (o && ((GR.row n adj k).take (x + 1)).all fun y => decide (0 ≤ y)) = (o2 && decide (0 ≤ y)) := by rw [hnx, List.all_append, ← Bool.and_assoc, ← HO2.out]; simp
          have HM3 := Lib.hid hm3
          have HO3 := Lib.hid ho3
          have HC := Lib.hid hcall
          clear hm3 ho3 hnx hxl hcall
          go_wp2_with fail
          refine HC.out.mono ?_
          rintro e w2 ⟨rfl, g2⟩
          have hx2 := hx.trans g2
          clear hx
          cases o2 with
          | false =>
            go_wp2
            all_goals
              go_roundw
              case rel => exact ⟨x + 1, _, _, by omega, by go_num, rfl, rfl, Lib.hid (by rw [HM3.out]; try omega), Lib.hid (by rw [HO3.out]; rfl), hx2⟩
              case measure => simp [intOf]; omega
          | true =>
            obtain ⟨yb, hyb⟩ : ∃ yb, decide (y ≥ 0) = yb := ⟨_, rfl⟩
            have HYB : Hid (decide (0 ≤ y) = yb) := Lib.hid hyb
            go_wp2
            all_goals
              go_roundw
              case rel => exact ⟨x + 1, _, _, by omega, by go_num, rfl, rfl, Lib.hid (by rw [HM3.out]; try omega), Lib.hid (by rw [HO3.out, HYB.out]; rfl), hx2⟩
              case measure => simp [intOf]; omega
        · obtain rfl : x = n := by omega
          have hfull : (GR.row x adj k).take x = GR.row x adj k := List.take_of_length_le (by rw [GR.row_length]; exact Nat.le_refl _)
          have H2 : Hid (m2 = GR.maxOf 0 (GR.rows x adj (k + 1))) := Lib.hid (by rw [HM2.out, hfull, HMM.out, GR.rows_next, GR.maxOf_app])
          have H3 : Hid (o2 = GR.wholeTo x adj (k + 1)) := Lib.hid (by rw [HO2.out, hfull, HOO.out, GR.wholeTo_next])
          have HX := Lib.hid hx
          clear hfull hx
          go_wp2
          go_roundw
          case rel => exact ⟨k + 1, _, _, by omega, by go_num, rfl, rfl, H2, H3, HX.out⟩
          case measure => simp [intOf]; omega
    · obtain rfl : k = n := by omega
      have HX := Lib.hid hx
      clear hx
      go_wp2
      go_ret2
      exact ⟨by rw [← HMM.out, ← HOO.out]; rfl, HX.out⟩
end Go.Proofs.Ytcckdogcjjimoaa
