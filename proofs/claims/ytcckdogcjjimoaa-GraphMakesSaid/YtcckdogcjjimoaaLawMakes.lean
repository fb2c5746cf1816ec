/- The walk of GraphMakes. -/
import Derived.Test.YtcckdogcjjimoaaGraphAwake
import Derived.Test.YtcckdogcjjimoaaEdsOpen
namespace Go.Proofs.Ytcckdogcjjimoaa
open Go.RowKit

theorem graph_new_ok (v : Value) (l : List GR.Ed) (n : Nat) (w : World) (hn1 : 1 ≤ n) (hn2 : n ≤ 64) (h : EdsV w v l) (hm : l.length ≤ 1000) (hb : l.any (GR.badE n) = false) :
    Calls Try.prog 9 #[.int .i64 n, v] w fun e w' => ∃ v', e = .returned (.tuple #[v', .int .i64 0]) ∧ GraphV w' v' n (GR.adjOf l) ∧ Ext w w' :=
  (graph_new v l n w hn1 hn2 h hm).mono fun e w' hp => by
    unfold NewPost at hp
    rw [if_neg (by rw [hb]; exact Bool.false_ne_true)] at hp
    exact hp
theorem graph_new_bad (v : Value) (l : List GR.Ed) (n : Nat) (w : World) (hn1 : 1 ≤ n) (hn2 : n ≤ 64) (h : EdsV w v l) (hm : l.length ≤ 1000) (hb : l.any (GR.badE n) = true) :
    Calls Try.prog 9 #[.int .i64 n, v] w fun e w' => e = .returned (.tuple #[.pointer none, .int .i64 11]) ∧ Ext w w' :=
  (graph_new v l n w hn1 hn2 h hm).mono fun e w' hp => by
    unfold NewPost at hp
    rw [if_pos hb] at hp
    exact hp

set_option maxRecDepth 100000 in
set_option maxHeartbeats 2000000 in
theorem law_makes_yes (q : Option Addr) (m c : Nat) (l : List GR.Ed) (n : Nat) (p : Int) (w : World) (h : EdsV w (.slice q m c) l) (hm : m ≤ 30) (hn1 : 1 ≤ n) (hn2 : n ≤ 64) (hb : l.any (GR.badE n) = false) :
    Calls Try.prog 5 #[.int .i64 n, .slice q m c, .int .i64 p] w fun e w' => e = .returned (.bool true) ∧ Ext w w' := by
  have hll : l.length = m := by
    obtain ⟨_, _, e, _⟩ := h
    injection e with _ e
    exact e.symm
  have hcheck : GR.checkG (n : Int) l = 0 := by
    unfold GR.checkG
    rw [if_neg (by omega), if_neg]
    intro hx
    have : l.any (GR.badE n) = true := hx
    rw [hb] at this
    cases this
  have hok : GR.OkE n l := fun e he => by
    cases hx : GR.badE n e with
    | false => rfl
    | true =>
      have := List.any_eq_true.2 ⟨e, he, hx⟩
      rw [hb] at this
      cases this
  have HO := Lib.hid (law_own (.slice q m c) l w h (by omega))
  have HC := Lib.hid (fun W (hW : Ext w W) => ref_check (.slice q m c) l n W (h.ext hW))
  have hnew := fun v W (hv : EdsV W v l) => graph_new_ok v l n W hn1 hn2 hv (by omega) hb
  have HN := Lib.hid hnew
  rw [hcheck] at HC
  have HE := Lib.hid (fun W (hW : Ext w W) => ref_edges (.slice q m c) l n W (h.ext hW) hn2)
  have HR := Lib.hid (fun W (hW : Ext w W) => ref_near (.slice q m c) l n p W (h.ext hW) hn2)
  have hnd := GR.nearD_eq hok p
  have HND := Lib.hid hnd
  have hlen1 : (GR.nearZ n (GR.adjOf l) p).length ≤ 64 := by rw [← hnd]; exact Nat.le_trans (GR.nearD_length _ _ _) hn2
  have hlk : (GR.links n (GR.adjOf l)).length ≤ 4096 := links_few hn2
  have hmi : (m : Int) ≤ 30 := by omega
  clear h hb hcheck hok hnew hnd
  go_enter Try.func5, Try.ntmps5
  go_wp2_with fail
  refine HO.out.mono ?_
  rintro e w1 ⟨v1, rfl, hR1⟩
  go_wp2_with fail
  refine (HN.out v1 w1 (row_eds hR1.row (by omega))).mono ?_
  rintro e w2 ⟨v2, rfl, hv2, g2⟩
  obtain ⟨B, pt, cc, rfl, hG⟩ := hv2
  have x2 := hR1.ext.trans g2
  go_wp2_with fail
  refine (HC.out w2 x2).mono ?_
  rintro e w3 ⟨rfl, g3⟩
  have hG3 := hG.ext g3
  have x3 := x2.trans g3
  go_wp2_with fail
  refine (graph_peers B n w3 hG3.two.c0).mono ?_
  rintro e w3 ⟨rfl, rfl⟩
  go_wp2_with fail
  refine (graph_edges B n cc _ pt _ hG3).mono ?_
  rintro e w4 ⟨v4, rfl, hR4⟩
  have x4 := x3.trans hR4.ext
  go_wp2_with fail
  refine (HE.out w4 x4).mono ?_
  rintro e w5 ⟨v5, rfl, hR5⟩
  have x5 := x4.trans hR5.ext
  go_wp2_with fail
  refine (law_same v4 v5 _ w5 ((row_eds hR4.row (by rw [GR.toEd_length]; omega)).ext hR5.ext) (row_eds hR5.row (by rw [GR.toEd_length]; show (GR.links n (GR.adjOf l)).length ≤ _; omega))).mono ?_
  rintro e w6 ⟨rfl, g6⟩
  have x6 := x5.trans g6
  go_wp2_with fail
  refine (graph_near B n cc _ pt p w6 (hG3.ext (hR4.ext.trans (hR5.ext.trans g6)))).mono ?_
  rintro e w7 ⟨v7, rfl, hv7, g7, _⟩
  have x7 := x6.trans g7
  go_wp2_with fail
  refine (HR.out w7 x7).mono ?_
  rintro e w8 ⟨v8, rfl, hR8⟩
  rw [HND.out] at hR8
  have x8 := x7.trans hR8.ext
  go_wp2_with fail
  refine (ints_same v7 v8 _ w8 (hv7.ext hR8.ext) (row_ints hR8.row (by rw [GR.ofN_length]; omega))).mono ?_
  rintro e w9 ⟨rfl, g9⟩
  have x9 := x8.trans g9
  go_wp2_with fail
  refine (law_awake w9).mono ?_
  rintro e w10 ⟨rfl, g10⟩
  have x10 := Lib.hid (x9.trans g10)
  go_wp2
  go_ret
  exact ⟨rfl, x10.out⟩

set_option maxRecDepth 100000 in
set_option maxHeartbeats 2000000 in
theorem law_makes_no (q : Option Addr) (m c : Nat) (l : List GR.Ed) (peers p : Int) (w : World) (h : EdsV w (.slice q m c) l) (hm : m ≤ 30) (hbad : GR.checkG peers l ≠ 0) :
    Calls Try.prog 5 #[.int .i64 peers, .slice q m c, .int .i64 p] w fun e w' => e = .returned (.bool true) ∧ Ext w w' := by
  have hll : l.length = m := by
    obtain ⟨_, _, e, _⟩ := h
    injection e with _ e
    exact e.symm
  have HO := Lib.hid (law_own (.slice q m c) l w h (by omega))
  have HC := Lib.hid (fun W (hW : Ext w W) => ref_check (.slice q m c) l peers W (h.ext hW))
  have hnew : ∀ v W, EdsV W v l → Calls Try.prog 9 #[.int .i64 peers, v] W fun e w' => e = .returned (.tuple #[.pointer none, .int .i64 (GR.checkG peers l : Nat)]) ∧ Ext W w' := by
    intro v W hv
    unfold GR.checkG at hbad ⊢
    by_cases hp : peers < 1 ∨ 64 < peers
    · rw [if_pos hp]
      exact graph_new_count v peers W hp
    · rw [if_neg hp] at hbad ⊢
      by_cases hb : l.any (GR.badI peers) = true
      · rw [if_pos hb]
        obtain ⟨n, rfl⟩ := Int.eq_ofNat_of_zero_le (show 0 ≤ peers by omega)
        exact graph_new_bad v l n W (by omega) (by omega) hv (by omega) hb
      · rw [if_neg hb] at hbad
        exact absurd rfl hbad
  have HN := Lib.hid hnew
  obtain ⟨k, hk⟩ : ∃ k, GR.checkG peers l = k := ⟨_, rfl⟩
  rw [hk] at HC HN hbad
  have f1 : ((k : Int) != (k : Int)) = false := bne_self_eq_false _
  have f2 : ((k : Int) != 0) = true := by rw [bne_iff_ne]; omega
  have hmi : (m : Int) ≤ 30 := by omega
  clear h hnew hk hbad
  go_enter Try.func5, Try.ntmps5
  go_wp2_with fail
  refine HO.out.mono ?_
  rintro e w1 ⟨v1, rfl, hR1⟩
  go_wp2_with fail
  refine (HN.out v1 w1 (row_eds hR1.row (by omega))).mono ?_
  rintro e w2 ⟨rfl, g2⟩
  have x2 := hR1.ext.trans g2
  go_wp2_with fail
  refine (HC.out w2 x2).mono ?_
  rintro e w3 ⟨rfl, g3⟩
  have x3 := x2.trans g3
  go_wp2_with fail
  refine (law_awake w3).mono ?_
  rintro e w10 ⟨rfl, g10⟩
  have x10 := Lib.hid (x3.trans g10)
  go_wp2
  go_ret
  exact ⟨rfl, x10.out⟩

set_option maxRecDepth 100000 in
theorem law_makes (q : Option Addr) (m c : Nat) (l : List GR.Ed) (peers p : Int) (w : World) (h : EdsW w q m l) :
    Calls Try.prog 5 #[.int .i64 peers, .slice q m c, .int .i64 p] w fun e w' => e = .returned (.bool true) ∧ Ext w w' := by
  by_cases hm : m ≤ 30
  · have hv : EdsV w (.slice q m c) l := h.v (by omega)
    by_cases hc : GR.checkG peers l = 0
    · obtain ⟨n, rfl, h1, h2, hok⟩ := GR.checkG_ok hc
      refine law_makes_yes q m c l n p w hv hm h1 h2 ?_
      rw [List.any_eq_false]
      intro e he
      rw [hok e he]
      exact Bool.false_ne_true
    · exact law_makes_no q m c l peers p w hv hm hc
  · have hmi : 30 < (m : Int) := by omega
    clear h hm
    go_enter Try.func5, Try.ntmps5
    go_wp2_with fail
    refine (law_awake w).mono ?_
    rintro e w10 ⟨rfl, g10⟩
    go_wp2
    go_ret
    exact ⟨rfl, g10⟩
end Go.Proofs.Ytcckdogcjjimoaa
