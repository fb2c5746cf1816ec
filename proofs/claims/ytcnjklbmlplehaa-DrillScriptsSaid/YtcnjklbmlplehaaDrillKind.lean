/- A kind of operation that is drawn. -/
import Derived.Test.YtcnjklbmlplehaaDice
import Derived.Laws.RangeString
import Derived.Laws.RangeAny
namespace Go.Proofs.Ytcnjklbmlplehaa
open Go.RowKit

theorem grown_iter (w : World) (s : ByteArray) (p k : Nat) : w.grownBy (w.iter s p) (some k) := grown_new w _ k

set_option maxRecDepth 100000 in
set_option maxHeartbeats 1000000 in
theorem draw_kind (D : Nat) (s : Int) (g : Value) (t : ByteArray) (w : World) (h : Drawer w D s g) (ht : DR.Low t) :
    Calls Try.prog 33 #[.pointer (some ⟨D, 0, none⟩), .string t] w fun e w' => e = .returned (.int .i64 (DR.kindOf t s)) ∧ Drawer w' D (DR.nxt s) g ∧ w.grownBy w' (some D) := by
  have hD := Two.lt h
  have hw1 : ∀ p, Drawer (w.iter t p) D s g := fun p => (heap_alloc_old w _ hD).trans h
  have hsum := DR.sum_bounds ht (k := t.size) (Nat.le_refl _)
  have hs1 := ht.some
  have hs2 := ht.few
  have HB := Lib.hid (fun p => draw_below D s (DR.sumTo t t.size) g (w.iter t p) (hw1 p) (by omega) (by omega))
  have hkb := DR.bel_bounds s (DR.sumTo t t.size) (by omega)
  unfold DR.kindOf
  generalize hb : DR.bel s (DR.sumTo t t.size) = k0 at *
  obtain ⟨R, hR⟩ : ∃ R, DR.pick t t.size 0 k0 = R := ⟨_, rfl⟩
  rw [hR]
  have HR := Lib.hid hR
  clear hR
  have HS := Lib.hid (fun k (hk : k ≤ t.size) => DR.sum_bounds ht hk)
  have HW := Lib.hid (fun i (hi : i < t.size) => DR.wt_bounds ht hi)
  have HL := Lib.hid ht.low
  have HH := Lib.hid h
  clear h hw1 hb ht
  go_enter Try.func33, Try.ntmps33
  go_wp2
  go_loopw [5] (fun n W => ∃ (i : Nat) (x : Int), i ≤ t.size ∧ W = w.iter t i ∧ n = .int .i64 x ∧ Hid (x = DR.sumTo t i)) (fun _ W => t.size - W.iterPos w.heap.size)
  case atStart => exact ⟨0, 0, by omega, rfl, rfl, Lib.hid rfl⟩
  case round =>
    obtain ⟨i, x, hi, rfl, rfl, hx⟩ := hrel
    by_cases hp : i < t.size
    · have hlo := HL.out i hp
      have hnx := fun ty => run_next_ascii (P := Try.prog) w t i ty hp (by omega)
      have hwt := DR.wt_eq hp
      have hwb := HW.out i hp
      have hsb := HS.out i hi
      rw [← hx.out] at hsb
      have hx0 : 0 ≤ x := by omega
      have hx4 : x ≤ 400 := by omega
      clear hsb
      generalize (t[i]'hp).toNat = c at *
      have HX : Hid (wrap64 (x + ((c : Int) - 96)) = DR.sumTo t (i + 1)) := Lib.hid (by
        have e : DR.sumTo t (i + 1) = x + ((c : Int) - 96) := by rw [← hwt, hx.out]; rfl
        rw [e]
        unfold wrap64
        omega)
      have HC := Lib.hid (fun W => drill_weight (c : Int) W (by omega) (by omega))
      clear hwt hlo
      go_wp2_with fail
      refine (HC.out _).mono ?_
      rintro e w2 ⟨rfl, rfl⟩
      go_wp2
      go_roundw
      case rel => exact ⟨i + 1, _, by omega, rfl, rfl, HX⟩
      case measure => simp; omega
    · obtain rfl : i = t.size := by omega
      have hnx := fun ty => run_next_end (P := Try.prog) w t t.size ty hp
      obtain rfl := hx.out
      have hgr : w.grownBy ((w.iter t t.size).setCell ⟨D, 0, none⟩ (.int .i64 (DR.nxt s))) (some D) := grown_more (grown_iter w t t.size D) (grown_setCell _ _ _ _)
      have hdr : Drawer ((w.iter t t.size).setCell ⟨D, 0, none⟩ (.int .i64 (DR.nxt s))) D (DR.nxt s) g := Two.set0 ((heap_alloc_old w _ hD).trans HH.out) _
      go_wp2_with fail
      refine (HB.out _).mono ?_
      rintro e w2 ⟨rfl, h2⟩
      rw [← h2] at hgr hdr
      have HGR := Lib.hid hgr
      have HDR := Lib.hid hdr
      clear hgr hdr h2 HS
      go_wp2
      go_loopw [8] (fun kv W => ∃ (i : Nat) (x : Int), i ≤ t.size ∧ W = w2.iter t i ∧ kv = .int .i64 x ∧ 0 ≤ x ∧ x ≤ 400 ∧ Hid (DR.pick t (t.size - i) i x = R)) (fun _ W => t.size - W.iterPos w2.heap.size)
      case atStart => exact ⟨0, k0, by omega, rfl, rfl, hkb.1, by omega, HR⟩
      case round =>
        obtain ⟨i, x, hi, rfl, rfl, hx0, hx4, hx⟩ := hrel
        by_cases hp : i < t.size
        · have hlo := HL.out i hp
          have hnx := fun ty => run_next_ascii (P := Try.prog) w2 t i ty hp (by omega)
          have hwt := DR.wt_eq hp
          have hwb := HW.out i hp
          obtain ⟨f, hf⟩ : ∃ f, t.size - i = f + 1 := ⟨t.size - i - 1, by omega⟩
          have hst : DR.pick t (t.size - i) i x = if x < DR.wt t i then (i : Int) else DR.pick t f (i + 1) (x - DR.wt t i) := by rw [hf]; rfl
          rw [hx.out, hwt] at hst
          have hf2 : t.size - (i + 1) = f := by omega
          generalize (t[i]'hp).toNat = c at *
          have HC := Lib.hid (fun W => drill_weight (c : Int) W (by omega) (by omega))
          have HF2 := Lib.hid hf2
          have hwb2 : 1 ≤ (c : Int) - 96 ∧ (c : Int) - 96 ≤ 26 := by omega
          clear hwt hlo hf hf2 hwb
          by_cases hlt : x < (c : Int) - 96
          · rw [if_pos hlt] at hst
            subst hst
            go_wp2_with fail
            refine (HC.out _).mono ?_
            rintro e w4 ⟨rfl, rfl⟩
            go_wp2
            go_ret
            exact ⟨rfl, (heap_alloc_old w2 _ (Two.lt HDR.out)).trans HDR.out, grown_more HGR.out (grown_iter w2 t _ D)⟩
          · rw [if_neg hlt] at hst
            have HST := Lib.hid hst
            clear hst
            go_wp2_with fail
            refine (HC.out _).mono ?_
            rintro e w4 ⟨rfl, rfl⟩
            go_wp2_with fail
            refine (HC.out _).mono ?_
            rintro e w4 ⟨rfl, rfl⟩
            go_wp2
            go_roundw
            case rel => exact ⟨i + 1, _, by omega, rfl, rfl, by omega, by omega, Lib.hid (by rw [HF2.out]; exact HST.out.symm)⟩
            case measure => simp; omega
        · obtain rfl : i = t.size := by omega
          have hnx := fun ty => run_next_end (P := Try.prog) w2 t t.size ty hp
          have hz : DR.pick t (t.size - t.size) t.size x = 0 := by rw [Nat.sub_self]; rfl
          rw [hx.out] at hz
          subst hz
          go_wp2
          go_ret
          exact ⟨rfl, (heap_alloc_old w2 _ (Two.lt HDR.out)).trans HDR.out, grown_more HGR.out (grown_iter w2 t _ D)⟩
end Go.Proofs.Ytcnjklbmlplehaa
