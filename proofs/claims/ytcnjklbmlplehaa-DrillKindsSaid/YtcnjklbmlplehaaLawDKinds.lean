/- The walk of DrillKinds. -/
import Derived.Test.YtcnjklbmlplehaaDrillAwake
import Derived.Test.YtcnjklbmlplehaaOpsOpen
import Derived.Test.YtcnjklbmlplehaaQuietG
namespace Go.Proofs.Ytcnjklbmlplehaa
open Go.RowKit


set_option maxRecDepth 100000 in
set_option maxHeartbeats 1000000 in
theorem law_dkinds (p : Option Addr) (m c : Nat) (l : List OpV) (w : World) (h : OpsW w p m l) :
    Calls Try.prog 3 #[.slice p m c] w fun e w' => e = .returned (.bool true) ∧ Ext w w' := by
  obtain ⟨hl, hat⟩ := h
  have HG := Lib.hid (law_great p m c l 450 w hl hat (by omega))
  have hv : OpsV w (.slice p m c) l := ⟨p, c, by rw [hl], by rw [hl]; exact hat⟩
  have HK := Lib.hid (fun hm : m ≤ 450 => drill_kinds (.slice p m c) l w hv (by omega))
  have HC := Lib.hid (fun (hm : m ≤ 450) i W (hW : Ext w W) => ref_count (.slice p m c) l i W (hv.ext hW) (by omega))
  obtain ⟨x0, x1, x2, x3, x4, x5, x6, x7, x8, x9, x10, x11, x12, hxs⟩ := list13 (DR.counts l) (DR.counts_length l)
  have hget := DR.counts_get l
  rw [hxs] at HK hget
  have HGET := Lib.hid hget
  clear hl hat hv hxs hget
  go_enter Try.func3, Try.ntmps3
  go_wp2_with fail
  refine HG.out.mono ?_
  rintro e w1 ⟨b, rfl, hb, rfl⟩
  cases b with
  | true =>
    go_wp2_with fail
    refine (drill_awake _).mono ?_
    rintro e w2 ⟨rfl, g2⟩
    go_wp2
    go_ret
    exact ⟨rfl, g2⟩
  | false =>
    have hm := hb rfl
    have hK := HK.out hm
    have hC := HC.out hm
    have HK2 : Hid (Calls Try.prog 8 #[.slice p m c] w fun e w' => e = .returned (.agg #[.int .i64 x0, .int .i64 x1, .int .i64 x2, .int .i64 x3, .int .i64 x4, .int .i64 x5, .int .i64 x6, .int .i64 x7, .int .i64 x8, .int .i64 x9, .int .i64 x10, .int .i64 x11, .int .i64 x12]) ∧ Ext w w') := Lib.hid hK
    have HC2 := Lib.hid hC
    clear hb hK hC HK HC HG
    go_wp2_with fail
    refine HK2.out.mono ?_
    rintro e w1 ⟨rfl, g1⟩
    have hka : KAt (w1.alloc (.cells (intCells [x0, x1, x2, x3, x4, x5, x6, x7, x8, x9, x10, x11, x12]).toArray 25)) w1.heap.size [x0, x1, x2, x3, x4, x5, x6, x7, x8, x9, x10, x11, x12] := heap_alloc_new w1 _
    have hga := g1.alloc (.cells (intCells [x0, x1, x2, x3, x4, x5, x6, x7, x8, x9, x10, x11, x12]).toArray 25)
    have HKA := Lib.hid hka
    have HGA := Lib.hid hga
    clear hka hga g1
    go_wp2
    go_loopw [4] (fun i W => ∃ (k : Nat), k ≤ 13 ∧ i = .int .i64 k ∧ KAt W w1.heap.size [x0, x1, x2, x3, x4, x5, x6, x7, x8, x9, x10, x11, x12] ∧ Ext w W) (fun i _ => 13 - (intOf i).toNat)
    case atStart => exact ⟨0, by omega, rfl, HKA.out, HGA.out⟩
    case round =>
      clear HKA HGA
      obtain ⟨k, hk, rfl, hka, hx⟩ := hrel
      by_cases hlt : k < 13
      · have hlt2 : (k : Int) < 13 := by omega
        have hg := HGET.out k hlt
        have c1 := cell_ext (hka.get hg)
        have hcc := fun p : ExtOf wr => HC2.out (k : Int) p.to (hx.trans p.ext)
        generalize DR.cnt l (k : Int) = x at *
        have HCC := Lib.hid hcc
        have HA := Lib.hid hka
        have HX := Lib.hid hx
        have t1 : ((x : Int) != (x : Int)) = false := bne_self_eq_false _
        clear hg hcc hka hx
        go_wp2_with fail
        refine wp_region_quiet_ext (by kernel_rfl) (by kernel_rfl) ?_
        repeat (go_big_quiet_step ((first
          | (go_at_call 9; exact calls_ext_same (HCC.out _)))))
        refine wpQuiet_nil ?_
        intro w4 g4
        have HA4 := Lib.hid (HA.out.ext g4)
        have HX4 := Lib.hid (HX.out.trans g4)
        go_wp2
        go_roundw
        case rel => exact ⟨k + 1, by omega, by go_num, HA4.out, HX4.out⟩
        case measure => simp [intOf]; omega
      · obtain rfl : k = 13 := by omega
        have HX := Lib.hid hx
        clear hka hx
        go_wp2_with fail
        refine (drill_awake _).mono ?_
        rintro e w2 ⟨rfl, g2⟩
        go_wp2
        go_ret
        exact ⟨rfl, HX.out.trans g2⟩
end Go.Proofs.Ytcnjklbmlplehaa
