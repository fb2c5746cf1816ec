/- The walk of GraphFar. -/
import Derived.Test.YtcckdogcjjimoaaLawWays
namespace Go.Proofs.Ytcckdogcjjimoaa
open Go.RowKit

theorem peer_of (p : Int) (n : Nat) (h1 : 1 ≤ n) (h2 : n ≤ 12) : ∃ a : Nat, wrap64 ((IntKind.u64.wrap p).tmod n) = a ∧ a < n := by
  rw [IntKind.wrap_u64]
  have h0 : 0 ≤ p % 18446744073709551616 := by omega
  rw [Int.tmod_eq_emod_of_nonneg h0]
  have h3 : 0 ≤ p % 18446744073709551616 % (n : Int) := Int.emod_nonneg _ (by omega)
  have h4 : p % 18446744073709551616 % (n : Int) < n := Int.emod_lt_of_pos _ (by omega)
  generalize p % 18446744073709551616 % (n : Int) = z at *
  refine ⟨z.toNat, ?_, by omega⟩
  unfold wrap64
  omega
theorem farZ_nat {n : Nat} {adj : Nat → Nat → Bool} {x y : Nat} (hx : x < n) (hy : y < n) : GR.farZ n adj x y = GR.dz n adj x y := by
  unfold GR.farZ
  rw [if_pos (by omega), Int.toNat_natCast, Int.toNat_natCast]

set_option maxRecDepth 100000 in
set_option maxHeartbeats 2000000 in
theorem law_far_yes (q : Option Addr) (m c : Nat) (l : List GR.Ed) (n : Nat) (p : Int) (w : World) (h : EdsV w (.slice q m c) l) (hm : m ≤ 30) (hn1 : 1 ≤ n) (hn2 : n ≤ 12) (hok : GR.OkE n l) (hcheck : GR.checkG (n : Int) l = 0) :
    Calls Try.prog 4 #[.int .i64 n, .slice q m c, .int .i64 p] w fun e w' => e = .returned (.bool true) ∧ Ext w w' := by
  have hll : l.length = m := by
    obtain ⟨_, _, e, _⟩ := h
    injection e with _ e
    exact e.symm
  have hb := bad_none hok
  have HC := Lib.hid (fun W (hW : Ext w W) => ref_check (.slice q m c) l n W (h.ext hW))
  rw [hcheck] at HC
  have HO := Lib.hid (fun W (hW : Ext w W) => law_own (.slice q m c) l W (h.ext hW) (by omega))
  have HN := Lib.hid (fun v W (hv : EdsV W v l) => graph_new_ok v l n W hn1 (by omega) hv (by omega) hb)
  have hmi : (m : Int) ≤ 30 := by omega
  have hni : (n : Int) ≤ 12 := by omega
  have HGR := Lib.hid (GR.gr_of hok)
  obtain ⟨a, ha, han⟩ := peer_of p n hn1 hn2
  have HA := Lib.hid ha
  clear h hcheck hb hok ha
  generalize GR.adjOf l = adj at *
  go_enter Try.func4, Try.ntmps4
  go_wp2_with fail
  refine (HC.out _ (Ext.refl w)).mono ?_
  rintro e w1 ⟨rfl, g1⟩
  go_wp2_with fail
  refine (HO.out _ g1).mono ?_
  rintro e w2 ⟨v2, rfl, hR2⟩
  go_wp2_with fail
  refine (HN.out v2 w2 (row_eds hR2.row (by omega))).mono ?_
  rintro e w3 ⟨v3, rfl, hv3, g3⟩
  obtain ⟨B, pt, cc, rfl, hG⟩ := hv3
  have x3 := g1.trans (hR2.ext.trans g3)
  have HG := Lib.hid hG
  have HX3 := Lib.hid x3
  clear HC HO HN hG x3 g3 hR2 g1
  go_wp2_with fail
  rw [HA.out]
  have HF := Lib.hid (fun (x y : Nat) W (hW : Ext w3 W) (hx : x < n) (hy : y < n) => (graph_far B n cc adj pt x y W (HG.out.ext hW)).mono (fun e w' h => (⟨by rw [h.1, farZ_nat hx hy], h.2⟩ : e = .returned (.int .i64 (GR.dz n adj x y)) ∧ Ext W w')))
  have HWH := Lib.hid (fun W (hW : Ext w3 W) => graph_whole B n cc adj pt W (HG.out.ext hW))
  have HWI := Lib.hid (fun W (hW : Ext w3 W) => graph_wide B n cc adj pt W (HG.out.ext hW))
  have HNE := Lib.hid (fun (x : Nat) W (hW : Ext w3 W) => graph_near B n cc adj pt x W (HG.out.ext hW))
  have hwl := GR.wide_lt HGR.out hn1
  have hsy : ∀ x, x < n → GR.dz n adj x a = GR.dz n adj a x := fun x hx => GR.dz_symm HGR.out hx han
  have hbd : ∀ x, -1 ≤ GR.dz n adj a x ∧ GR.dz n adj a x < n := fun x => GR.dz_bounds HGR.out han x
  have hze : ∀ x, GR.dz n adj a x = 0 ↔ x = a := fun x => GR.dz_zero_iff HGR.out han x
  have hge : ∀ x, x < n → GR.dz n adj a x ≤ GR.wide n adj := fun x hx => GR.wide_ge han hx
  have hwo : GR.whole n adj = true → ∀ x, x < n → 0 ≤ GR.dz n adj a x := fun h x hx => (GR.whole_iff HGR.out hn1).1 h a x han hx
  have hed : ∀ x u, adj x u = true → (0 ≤ GR.dz n adj a x ↔ 0 ≤ GR.dz n adj a u) ∧ (0 ≤ GR.dz n adj a x → GR.dz n adj a u ≤ GR.dz n adj a x + 1) := fun x u h => GR.dz_edge HGR.out han h
  generalize GR.wide n adj = wd at *
  generalize GR.whole n adj = wh at *
  have HSY := Lib.hid hsy
  have HBD := Lib.hid hbd
  have HZE := Lib.hid hze
  have HGE := Lib.hid hge
  have HWO := Lib.hid hwo
  have HED := Lib.hid hed
  have hai : (a : Int) < (n : Int) := by omega
  clear hsy hbd hze hge hwo hed HG
  go_loopw [10] (fun i wr => ∃ k : Nat, k ≤ n ∧ i = .int .i64 k ∧ Ext w3 wr) (fun i _ => n - (intOf i).toNat)
  case atStart => exact ⟨0, by omega, rfl, Ext.refl _⟩
  case round =>
    obtain ⟨k, hk, rfl, hx⟩ := hrel
    by_cases hlt : k < n
    · have hcall := HF.out a k
      have hcall2 := HF.out k a
      rw [HSY.out k hlt] at hcall2
      have hb := HBD.out k
      have hz := HZE.out k
      have hg := HGE.out k hlt
      have hw := fun h => HWO.out h k hlt
      have he : ∀ u, adj k u = true → (0 ≤ GR.dz n adj a k ↔ 0 ≤ GR.dz n adj a u) ∧ (0 ≤ GR.dz n adj a k → GR.dz n adj a u ≤ GR.dz n adj a k + 1) ∧ (0 ≤ GR.dz n adj a u → GR.dz n adj a k ≤ GR.dz n adj a u + 1) := fun u hu => ⟨(HED.out k u hu).1, (HED.out k u hu).2, (HED.out u k (by rw [HGR.out.symm]; exact hu)).2⟩
      generalize hd : GR.dz n adj a k = d at *
      have HC1 := Lib.hid hcall
      have HC2 := Lib.hid hcall2
      have HE := Lib.hid he
      have hb1 := hb.1
      have hb2 := hb.2
      clear hcall hcall2 he hd hb
      have t1 : (d != d) = false := bne_self_eq_false d
      obtain ⟨b, hb⟩ : ∃ b, (d == 0) = b := ⟨_, rfl⟩
      have hb' : ((k : Int) == (a : Int)) = b := by
        rw [← hb, Bool.eq_iff_iff, beq_iff_eq, beq_iff_eq, hz]
        omega
      have t2 : (b != b) = false := bne_self_eq_false b
      clear hz
      go_wp2_with fail
      refine (HC1.out wr hx han hlt).mono ?_
      rintro e w5 ⟨rfl, g5⟩
      have hx5 := hx.trans g5
      clear hx g5
      go_wp2_with fail
      refine (HC2.out w5 hx5 hlt han).mono ?_
      rintro e w6 ⟨rfl, g6⟩
      have hx6 := hx5.trans g6
      clear hx5 g6
      go_wp2_with fail
      refine (HWH.out w6 hx6).mono ?_
      rintro e w7 ⟨rfl, g7⟩
      have hx7 := hx6.trans g7
      clear hx6 g7
      cases wh with
      | false =>
        go_wp2_with fail
        refine (HNE.out k w7 hx7).mono ?_
        rintro e w8 ⟨v8, rfl, hv8, g8, _⟩
        have hx8 := hx7.trans g8
        clear hx7 g8
        rw [nearZ_nat] at hv8
        obtain ⟨p8, c8, rfl, hl8, hv8⟩ := hv8
        have hmem : ∀ u, u ∈ GR.near n adj k → adj k u = true ∧ u < n := fun u hu => ⟨(GR.mem_near HGR.out).1 hu, (HGR.out.lt _ _ ((GR.mem_near HGR.out).1 hu)).2⟩
        have hnl := GR.near_length (n := n) (adj := adj) k
        rw [GR.ofN_length] at hl8 hv8 ⊢
        generalize GR.near n adj k = L at *
        obtain ⟨N, hNL⟩ : ∃ N, L.length = N := ⟨_, rfl⟩
        rw [hNL] at hl8 hv8 hnl ⊢
        have HNL := Lib.hid hNL
        have HV8 := Lib.hid hv8
        have HMEM := Lib.hid hmem
        clear hNL hv8 hmem
        go_wp2_with fail
        go_loopw [13] (fun i W => ∃ j : Nat, j ≤ N ∧ i = .int .i64 j ∧ Ext w3 W ∧ Ext w8 W) (fun i _ => N - (intOf i).toNat)
        case atStart => exact ⟨0, by omega, rfl, hx8, Ext.refl _⟩
        case round =>
          clear hx8
          obtain ⟨j, hj, rfl, hx, hx2⟩ := hrel
          by_cases hjn : j < N
          · have hjl : j < L.length := by rw [HNL.out]; exact hjn
            obtain ⟨b8, o8, rfl, hat⟩ : ∃ b o, p8 = some ⟨b, o, none⟩ ∧ IntsAt w8 b o (GR.ofN L) := by
              rcases HV8.out with h | h
              · omega
              · exact h
            have k1 := hx2.cell (hat j (by rw [GR.ofN_length]; exact hjl))
            have hel : (GR.ofN L)[j]'(by rw [GR.ofN_length]; exact hjl) = (L[j] : Int) := by unfold GR.ofN; rw [List.getElem_map]; rfl
            rw [hel] at k1
            obtain ⟨hadj, hun⟩ := HMEM.out L[j] (List.getElem_mem hjl)
            generalize L[j] = u at *
            have hcu := HF.out a u
            have he := HE.out u hadj
            have hbu := HBD.out u
            generalize GR.dz n adj a u = z at *
            have hbz1 := hbu.1
            have hbz2 := hbu.2
            have HCU := Lib.hid hcu
            have hs : (d < 0 ∧ z < 0) ∨ (0 ≤ d ∧ 0 ≤ z) := by omega
            have T4 : Hid (decide (z > d + 1) = false) := Lib.hid (decide_eq_false (by omega))
            have T5 : Hid (decide (d > z + 1) = false) := Lib.hid (decide_eq_false (by omega))
            have HS := Lib.hid hs
            clear hcu he hbu hel hadj hat hs
            go_wp2_with fail
            refine (HCU.out wr hx han hun).mono ?_
            rintro e w9 ⟨rfl, g9⟩
            have hx9 := hx.trans g9
            have hx10 := hx2.trans g9
            clear hx hx2 g9
            have t4 := T4.out
            have t5 := T5.out
            rcases HS.out with ⟨h1, h2⟩ | ⟨h1, h2⟩
            · have t1 : decide (d < 0) = true := decide_eq_true h1
              have t2 : decide (z < 0) = true := decide_eq_true h2
              go_wp2_with fail
              go_roundw
              case rel => exact ⟨j + 1, by omega, by go_num, hx9, hx10⟩
              case measure => simp [intOf]; omega
            · have t1 : decide (d < 0) = false := decide_eq_false (by omega)
              have t2 : decide (z < 0) = false := decide_eq_false (by omega)
              go_wp2_with fail
              go_roundw
              case rel => exact ⟨j + 1, by omega, by go_num, hx9, hx10⟩
              case measure => simp [intOf]; omega
          · obtain rfl : j = N := by omega
            have HX := Lib.hid hx
            clear hx hx2
            go_wp2_with fail
            go_roundw
            case rel => exact ⟨k + 1, by omega, by go_num, HX.out⟩
            case measure => simp [intOf]; omega
      | true =>
        have hd0 : 0 ≤ d := hw rfl
        clear hw
        have t7 : decide (d < 0) = false := decide_eq_false (by omega)
        go_wp2_with fail
        refine (HWI.out w7 hx7).mono ?_
        rintro e w7b ⟨rfl, g7b⟩
        have hx7b := hx7.trans g7b
        clear hx7 g7b
        have t6 : decide (d > wd) = false := decide_eq_false (by omega)
        go_wp2_with fail
        refine (HNE.out k w7b hx7b).mono ?_
        rintro e w8 ⟨v8, rfl, hv8, g8, _⟩
        have hx8 := hx7b.trans g8
        clear hx7b g8
        rw [nearZ_nat] at hv8
        obtain ⟨p8, c8, rfl, hl8, hv8⟩ := hv8
        have hmem : ∀ u, u ∈ GR.near n adj k → adj k u = true ∧ u < n := fun u hu => ⟨(GR.mem_near HGR.out).1 hu, (HGR.out.lt _ _ ((GR.mem_near HGR.out).1 hu)).2⟩
        have hnl := GR.near_length (n := n) (adj := adj) k
        rw [GR.ofN_length] at hl8 hv8 ⊢
        generalize GR.near n adj k = L at *
        obtain ⟨N, hNL⟩ : ∃ N, L.length = N := ⟨_, rfl⟩
        rw [hNL] at hl8 hv8 hnl ⊢
        have HNL := Lib.hid hNL
        have HV8 := Lib.hid hv8
        have HMEM := Lib.hid hmem
        clear hNL hv8 hmem
        go_wp2_with fail
        go_loopw [13] (fun i W => ∃ j : Nat, j ≤ N ∧ i = .int .i64 j ∧ Ext w3 W ∧ Ext w8 W) (fun i _ => N - (intOf i).toNat)
        case atStart => exact ⟨0, by omega, rfl, hx8, Ext.refl _⟩
        case round =>
          clear hx8
          obtain ⟨j, hj, rfl, hx, hx2⟩ := hrel
          by_cases hjn : j < N
          · have hjl : j < L.length := by rw [HNL.out]; exact hjn
            obtain ⟨b8, o8, rfl, hat⟩ : ∃ b o, p8 = some ⟨b, o, none⟩ ∧ IntsAt w8 b o (GR.ofN L) := by
              rcases HV8.out with h | h
              · omega
              · exact h
            have k1 := hx2.cell (hat j (by rw [GR.ofN_length]; exact hjl))
            have hel : (GR.ofN L)[j]'(by rw [GR.ofN_length]; exact hjl) = (L[j] : Int) := by unfold GR.ofN; rw [List.getElem_map]; rfl
            rw [hel] at k1
            obtain ⟨hadj, hun⟩ := HMEM.out L[j] (List.getElem_mem hjl)
            generalize L[j] = u at *
            have hcu := HF.out a u
            have he := HE.out u hadj
            have hbu := HBD.out u
            generalize GR.dz n adj a u = z at *
            have hbz1 := hbu.1
            have hbz2 := hbu.2
            have HCU := Lib.hid hcu
            have hs : (d < 0 ∧ z < 0) ∨ (0 ≤ d ∧ 0 ≤ z) := by omega
            have T4 : Hid (decide (z > d + 1) = false) := Lib.hid (decide_eq_false (by omega))
            have T5 : Hid (decide (d > z + 1) = false) := Lib.hid (decide_eq_false (by omega))
            have HS := Lib.hid hs
            clear hcu he hbu hel hadj hat hs
            go_wp2_with fail
            refine (HCU.out wr hx han hun).mono ?_
            rintro e w9 ⟨rfl, g9⟩
            have hx9 := hx.trans g9
            have hx10 := hx2.trans g9
            clear hx hx2 g9
            have t4 := T4.out
            have t5 := T5.out
            rcases HS.out with ⟨h1, h2⟩ | ⟨h1, h2⟩
            · exact absurd h1 (by omega)
            · have t2 : decide (z < 0) = false := decide_eq_false (by omega)
              go_wp2_with fail
              go_roundw
              case rel => exact ⟨j + 1, by omega, by go_num, hx9, hx10⟩
              case measure => simp [intOf]; omega
          · obtain rfl : j = N := by omega
            have HX := Lib.hid hx
            clear hx hx2
            go_wp2_with fail
            go_roundw
            case rel => exact ⟨k + 1, by omega, by go_num, HX.out⟩
            case measure => simp [intOf]; omega
    · obtain rfl : k = n := by omega
      have HX := Lib.hid (HX3.out.trans hx)
      clear HF HNE HWH
      go_wp2_with fail
      refine (HWI.out wr hx).mono ?_
      rintro e w5 ⟨rfl, g5⟩
      go_wp2_with fail
      refine (law_awake w5).mono ?_
      rintro e w6 ⟨rfl, g6⟩
      go_wp2
      go_ret
      exact ⟨rfl, HX.out.trans (g5.trans g6)⟩

set_option maxRecDepth 100000 in
theorem law_far_no (q : Option Addr) (m c : Nat) (l : List GR.Ed) (peers p : Int) (w : World) (h : EdsV w (.slice q m c) l) (hm : m ≤ 30) (hp : peers ≤ 12) (hbad : GR.checkG peers l ≠ 0) :
    Calls Try.prog 4 #[.int .i64 peers, .slice q m c, .int .i64 p] w fun e w' => e = .returned (.bool true) ∧ Ext w w' := by
  have HC := Lib.hid (fun W (hW : Ext w W) => ref_check (.slice q m c) l peers W (h.ext hW))
  obtain ⟨k, hk⟩ : ∃ k, GR.checkG peers l = k := ⟨_, rfl⟩
  rw [hk] at HC hbad
  have f2 : ((k : Int) != 0) = true := by rw [bne_iff_ne]; omega
  have hmi : (m : Int) ≤ 30 := by omega
  clear h hk hbad
  go_enter Try.func4, Try.ntmps4
  go_wp2_with fail
  refine (HC.out _ (Ext.refl w)).mono ?_
  rintro e w1 ⟨rfl, g1⟩
  go_wp2_with fail
  refine (law_awake w1).mono ?_
  rintro e w10 ⟨rfl, g10⟩
  have x10 := Lib.hid (g1.trans g10)
  go_wp2
  go_ret
  exact ⟨rfl, x10.out⟩

set_option maxRecDepth 100000 in
theorem law_far (q : Option Addr) (m c : Nat) (l : List GR.Ed) (peers p : Int) (w : World) (h : EdsW w q m l) :
    Calls Try.prog 4 #[.int .i64 peers, .slice q m c, .int .i64 p] w fun e w' => e = .returned (.bool true) ∧ Ext w w' := by
  by_cases hm : m ≤ 30
  · have hv : EdsV w (.slice q m c) l := h.v (by omega)
    by_cases hp : peers ≤ 12
    · by_cases hc : GR.checkG peers l = 0
      · obtain ⟨n, rfl, h1, h2, hok⟩ := GR.checkG_ok hc
        exact law_far_yes q m c l n p w hv hm h1 (by omega) hok hc
      · exact law_far_no q m c l peers p w hv hm hp hc
    · have hmi : (m : Int) ≤ 30 := by omega
      have hpi : 12 < peers := by omega
      clear h hm hv
      go_enter Try.func4, Try.ntmps4
      go_wp2_with fail
      refine (law_awake _).mono ?_
      rintro e w10 ⟨rfl, g10⟩
      go_wp2
      go_ret
      exact ⟨rfl, g10⟩
  · have hmi : 30 < (m : Int) := by omega
    clear h hm
    go_enter Try.func4, Try.ntmps4
    go_wp2_with fail
    refine (law_awake _).mono ?_
    rintro e w10 ⟨rfl, g10⟩
    go_wp2
    go_ret
    exact ⟨rfl, g10⟩
end Go.Proofs.Ytcckdogcjjimoaa
