/- The walk of DrillAll. -/
import Derived.Test.YtcnjklbmlplehaaDrillAwake
namespace Go.Proofs.Ytcnjklbmlplehaa
open Go.RowKit

namespace DR
theorem numb_kind (s : Int) (x : OpV) : (numb s x).1.kind = x.kind := by
  unfold numb
  repeat (split; rfl)
  rfl
theorem op_kind (L : Nat → List Nat) (n : Nat) {t : ByteArray} (ht : Low t) (s : Int) : 0 ≤ (opOf L n t s).1.kind ∧ (opOf L n t s).1.kind < 13 := by
  have hk := kind_bounds ht s
  unfold opOf
  split
  · exact hk
  split
  · exact hk
  split
  · split
    · exact ⟨(by decide : (0 : Int) ≤ 2), (by decide : (2 : Int) < 13)⟩
    · rw [numb_kind]; exact hk
  · rw [numb_kind]; exact hk
theorem scr_all {f : Int → OpV × Int} {P : OpV → Prop} (h : ∀ s, P (f s).1) (k : Nat) (s : Int) : ∀ x ∈ (scr f k s).1, P x := by
  induction k with
  | zero => intro x hx; cases hx
  | succ k ih =>
    intro x hx
    rcases List.mem_append.1 (show x ∈ (scr f k s).1 ++ [(f (scr f k s).2).1] from hx) with h1 | h1
    · exact ih x h1
    · rw [List.mem_singleton.1 h1]; exact h _
theorem script_kinds (L : Nat → List Nat) (n : Nat) (seed kind m : Int) : ∀ x ∈ script L n seed kind m, 0 ≤ x.kind ∧ x.kind < 13 := scr_all (fun s => op_kind L n (low_wts kind) s) _ _
end DR

theorem opsCells_cat (l m : List OpV) : opsCells (l ++ m) = opsCells l ++ opsCells m := by unfold opsCells; rw [List.flatMap_append]
theorem ops_news {w : World} {b off : Nat} {l : List OpV} (h : OpsAt w b off l) : ∀ j u, (opsCells l)[j]? = some u → w.cell? ((⟨b, off, none⟩ : Addr).add j) = some u := by
  intro j u hu
  have hj : j < l.length * 8 := by have := (List.getElem?_eq_some_iff.1 hu).1; rw [opsCells_length] at this; exact this
  have hi : j / 8 < l.length := by omega
  have := opsCells_at l (j / 8) (j % 8) hi (Nat.mod_lt _ (by omega))
  rw [show j / 8 * 8 + j % 8 = j by omega] at this
  rw [this] at hu
  have h2 := h (j / 8) hi (j % 8) u hu
  rw [Addr.add_lit]
  rw [show off + j = off + j / 8 * 8 + j % 8 by omega]
  exact h2
theorem ops_one (l : List OpV) : ∀ u ∈ opsCells l, u.oneCell' = true := by
  intro u hu
  obtain ⟨x, _, hx⟩ := List.mem_flatMap.1 hu
  exact op_one x u hx

set_option maxRecDepth 100000 in
set_option maxHeartbeats 2000000 in
theorem law_dall (seed : Int) (w : World) :
    Calls Try.prog 4 #[.int .i64 seed] w fun e w' => e = .returned (.bool true) ∧ Ext w w' := by
  obtain ⟨i0, hi, hz0, hz1, hz2⟩ := info_parts info_op
  have Hi := Lib.hid hi
  have HL := Lib.hid (show ∀ w, Calls Try.prog 11 #[.int .i64 3] w fun e w' => ∃ v, e = .returned v ∧ GraphV w' v 3 (GR.adjOf (GR.line 3)) ∧ Ext w w' from graph_line 3 (by omega) (by omega))
  generalize GR.adjOf (GR.line 3) = adj at *
  have hs : ∀ (seed kind : Int) B c pt W, GraphAt W B 3 adj pt c → Calls Try.prog 10 #[.int .i64 seed, .int .i64 kind, .int .i64 400, .pointer (some ⟨B, 0, none⟩)] W fun e w' => ∃ (g d : Nat) (l : List OpV), e = .returned (.slice (some ⟨g, 0, none⟩) 400 d) ∧ l.length = 400 ∧ OpsAt w' g 0 l ∧ (∀ x ∈ l, 0 ≤ x.kind ∧ x.kind < 13) ∧ Ext W w' := fun seed kind B c pt W hG =>
    (drill_script seed kind 400 B 3 c adj pt W hG).mono fun e w' ⟨v, he, hR⟩ => by
      have hlen := DR.script_length (GR.near 3 adj) 3 seed kind 400
      rw [show DR.many 400 = 400 by decide] at hlen
      have hkk := DR.script_kinds (GR.near 3 adj) 3 seed kind 400
      generalize DR.script (GR.near 3 adj) 3 seed kind 400 = l at *
      obtain ⟨p, c, hv, hs⟩ := ops_of_row hR.row
      rcases hR.row.2 with ⟨_, h0⟩ | ⟨g, cap, cur, hv2, _⟩
      · omega
      · rw [hv] at hv2
        injection hv2 with e1 e2 e3
        subst e1 e3
        rw [hlen] at hv
        rcases hs with h | ⟨b, off, hp, ha⟩
        · omega
        · injection hp with hp
          injection hp with hp1 hp2
          subst hp1 hp2
          exact ⟨g, c, l, by rw [he, hv], hlen, ha, hkk, hR.ext⟩
  have HS := Lib.hid hs
  have HK := Lib.hid (fun v l W (h : OpsV W v l) (hm : l.length ≤ 100000) => drill_kinds v l W h hm)
  clear hs hi
  go_enter Try.func4, Try.ntmps4
  go_wp2
  go_loopw [3] (fun i W => ∃ (k : Nat), k ≤ 4 ∧ i = .int .i64 k ∧ Ext w W) (fun i _ => 4 - (intOf i).toNat)
  case atStart => exact ⟨0, by omega, rfl, Ext.refl _⟩
  case round =>
    obtain ⟨k, hk, rfl, hx⟩ := hrel
    by_cases hlt : k < 4
    · have hlt2 : (k : Int) < 4 := by omega
      go_wp2
      go_loopw [5, 6] (fun v i W => ∃ (j : Nat) (all : List OpV), j ≤ 5 ∧ i = .int .i64 j ∧ all.length = 400 * j ∧ W.ownsRow w.heap.size 43 8 v all.length (opsCells all) ∧ Ext w W ∧ Hid (∀ x ∈ all, 0 ≤ x.kind ∧ x.kind < 13)) (fun _ i _ => 5 - (intOf i).toNat)
      case atStart => exact ⟨0, [], by omega, rfl, rfl, World.ownsRow_nil _ _ _ _, hx, Lib.hid (fun x hx => by cases hx)⟩
      case round =>
        clear hx
        obtain ⟨j, all, hj, rfl, hal, hrow, hx, hkk⟩ := hrel
        by_cases hlj : j < 5
        · have hlj2 : (j : Int) < 5 := by omega
          go_wp2_with fail
          refine (HL.out _).mono ?_
          rintro e w1 ⟨v1, rfl, hv1, g1⟩
          obtain ⟨B1, p1, c1, rfl, G1⟩ := hv1
          go_wp2_with fail
          refine (HS.out _ _ B1 c1 p1 w1 G1).mono ?_
          rintro e w2 ⟨g, d, l, rfl, hll, hat, hlk, g2⟩
          have hrow2 := row_to hrow (g1.trans g2)
          have HROW := Lib.hid hrow2
          have HX2 := Lib.hid (hx.trans (g1.trans g2))
          have HS2 := HX2.out.size
          have HAT := Lib.hid hat
          have HNEWS := Lib.hid (ops_news hat)
          have HLEN : Hid ((opsCells l).length = 400 * 8) := Lib.hid (by rw [opsCells_length, hll])
          have HKK : Hid (∀ x ∈ all ++ l, 0 ≤ x.kind ∧ x.kind < 13) := Lib.hid (fun x hx => by
            rcases List.mem_append.1 hx with h | h
            · exact hkk.out x h
            · exact hlk x h)
          have HCAT : Hid (opsCells (all ++ l) = opsCells all ++ opsCells l) := Lib.hid (opsCells_cat all l)
          have HLL := Lib.hid hll
          have HAL := Lib.hid hal
          have ha2 : all.length ≤ 2000 := by omega
          clear hrow hrow2 hat hlk hx hkk g1 G1 g2 hll hal
          go_wp2_with (at_builtin; refine wpList_append_own_at _ rfl _ _ 22 rfl w.heap.size 43 i0 (.agg #[.int .i64 0, .int .i64 0, .int .i64 0, .int .i64 0, .int .i64 0, .int .i64 0, .string ⟨#[]⟩, .string ⟨#[]⟩]) 8 80 Try.underlying22 Hi.out hz0 hz1 hz2 rfl (by decide) _ _ _ rfl HROW.out ⟨g, 0, none⟩ 400 d (opsCells l) rfl HLEN.out HNEWS.out (ops_one l) (by unfold maxLen; omega) (by omega) HS2 ?_; intro v' w6 hown' hgrow _ _)
          go_roundw
          case rel =>
            refine ⟨j + 1, all ++ l, by omega, by go_num, by rw [List.length_append, HLL.out, HAL.out]; omega, ?_, ext_grownV HX2.out HROW.out hgrow (Nat.le_refl _), HKK⟩
            rw [HCAT.out, List.length_append, HLL.out]
            exact hown'
          case measure => simp [intOf]; omega
        · obtain rfl : j = 5 := by omega
          have hall : all.length = 2000 := by omega
          have hkd := HK.out u5 all wr (ops_of_row hrow) (by omega)
          have hsum := DR.sumK_all all hkk.out
          rw [hall] at hsum
          have hget := DR.counts_get all
          have hsle : ∀ i, DR.sumK all i ≤ 2000 := fun i => by rw [DR.sumK_eq, ← hall]; exact List.countP_le_length
          have hsn : ∀ i : Nat, DR.sumK all (i + 1) = DR.sumK all i + DR.cnt all (i : Nat) := fun i => rfl
          have hs0 : DR.sumK all 0 = 0 := rfl
          obtain ⟨x0, x1, x2, x3, x4, x5, x6, x7, x8, x9, x10, x11, x12, hxs⟩ := list13 (DR.counts all) (DR.counts_length all)
          rw [hxs] at hkd hget
          have HKD : Hid (Calls Try.prog 8 #[u5] wr fun e w' => e = .returned (.agg #[.int .i64 x0, .int .i64 x1, .int .i64 x2, .int .i64 x3, .int .i64 x4, .int .i64 x5, .int .i64 x6, .int .i64 x7, .int .i64 x8, .int .i64 x9, .int .i64 x10, .int .i64 x11, .int .i64 x12]) ∧ Ext wr w') := Lib.hid hkd
          clear hkd hxs hall hrow hkk hal
          generalize DR.sumK all = S at *
          generalize DR.cnt all = C at *
          have HGET := Lib.hid hget
          have HSN := Lib.hid hsn
          have HSL := Lib.hid hsle
          have HS0 := Lib.hid hs0
          have HSUM := Lib.hid hsum
          clear hget hsn hsle hs0 hsum
          go_wp2_with fail
          refine HKD.out.mono ?_
          rintro e w1 ⟨rfl, g1⟩
          have HKA : Hid (KAt (w1.alloc (.cells (intCells [x0, x1, x2, x3, x4, x5, x6, x7, x8, x9, x10, x11, x12]).toArray 25)) w1.heap.size [x0, x1, x2, x3, x4, x5, x6, x7, x8, x9, x10, x11, x12]) := Lib.hid (heap_alloc_new w1 _)
          have HGA := Lib.hid ((hx.trans g1).alloc (.cells (intCells [x0, x1, x2, x3, x4, x5, x6, x7, x8, x9, x10, x11, x12]).toArray 25))
          clear hx g1
          go_wp2
          go_loopw [4, 8] (fun nv i W => ∃ (q : Nat), q ≤ 13 ∧ i = .int .i64 q ∧ nv = .int .i64 (S q : Nat) ∧ KAt W w1.heap.size [x0, x1, x2, x3, x4, x5, x6, x7, x8, x9, x10, x11, x12] ∧ Ext w W) (fun _ i _ => 13 - (intOf i).toNat)
          case atStart => exact ⟨0, by omega, rfl, by rw [HS0.out]; rfl, HKA.out, HGA.out⟩
          case round =>
            clear HKA HGA
            obtain ⟨q, hq, rfl, rfl, hka, hx⟩ := hrel
            by_cases hlq : q < 13
            · have hlq2 : (q : Int) < 13 := by omega
              have c1 := hka.get (HGET.out q hlq)
              have hb1 := HSL.out q
              have hb2 := HSL.out (q + 1)
              have hsn := HSN.out q
              rw [hsn] at hb2
              have HN := Lib.hid hsn
              have HA := Lib.hid hka
              have HX := Lib.hid hx
              generalize C (q : Nat) = y at *
              generalize S q = z at *
              clear hsn hka hx
              go_wp2
              go_roundw
              case rel => exact ⟨q + 1, by omega, by go_num, by rw [HN.out]; go_num, HA.out, HX.out⟩
              case measure => simp [intOf]; omega
            · obtain rfl : q = 13 := by omega
              rw [HSUM.out]
              have HX := Lib.hid hx
              clear hka hx
              go_wp2
              go_roundw
              case rel => exact ⟨k + 1, by omega, by go_num, HX.out⟩
              case measure => simp [intOf]; omega
    · obtain rfl : k = 4 := by omega
      have HX := Lib.hid hx
      clear hx
      go_wp2_with fail
      refine (drill_awake _).mono ?_
      rintro e w2 ⟨rfl, g2⟩
      go_wp2
      go_ret
      exact ⟨rfl, HX.out.trans g2⟩
end Go.Proofs.Ytcnjklbmlplehaa
