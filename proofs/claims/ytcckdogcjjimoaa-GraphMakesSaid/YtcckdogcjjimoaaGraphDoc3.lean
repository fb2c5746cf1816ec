/- The document's Edges; whether two lists of edges are the same. -/
import Derived.Test.YtcckdogcjjimoaaGraphDoc2
namespace Go.Proofs.Ytcckdogcjjimoaa
open Go.RowKit

set_option maxRecDepth 100000 in
set_option maxHeartbeats 2000000 in
theorem ref_edges (v : Value) (l : List GR.Ed) (n : Nat) (w : World) (h : EdsV w v l) (hn : n ≤ 64) :
    Calls Try.prog 20 #[.int .i64 n, v] w fun e w' => ∃ v', e = .returned v' ∧ EdR w w' 50 v' (GR.toEd (GR.linksOf n (GR.adjOf l) n)) := by
  obtain ⟨i0, hi, hz0, hz1, hz2⟩ := info_parts info_ed
  have Hi := Lib.hid hi
  have HH := Lib.hid (fun p q W (hW : Ext w W) => ref_has v l p q W (h.ext hW))
  obtain ⟨a, c, rfl, _⟩ := h
  generalize hnl : l.length = nl at *
  clear hi hnl
  go_enter Try.func20, Try.ntmps20
  go_wp2
  go_loopw [5, 6] (fun ov i wr => ∃ (k : Nat) (out : List GR.Ed), k ≤ n ∧ i = .int .i64 k ∧ EdR w wr 50 ov out ∧ Hid (out = GR.toEd (GR.linksOf n (GR.adjOf l) k))) (fun _ i _ => n - (intOf i).toNat)
  case atStart => exact ⟨0, [], by omega, rfl, ⟨World.ownsRow_nil _ _ _ _, Ext.refl _⟩, Lib.hid rfl⟩
  case round =>
    obtain ⟨k, out, hk, rfl, hI, HO⟩ := hrel
    obtain ⟨p1, q1, rfl⟩ := row_slice hI.row
    have hlen0 : out.length ≤ k * n := by rw [HO.out, GR.toEd_length]; exact GR.linksOf_length ..
    have hlen : out.length ≤ 64 * 64 := Nat.le_trans hlen0 (Nat.mul_le_mul (by omega) hn)
    clear hlen0
    by_cases hlt : k < n
    · have HI0 := Lib.hid hI
      clear hI
      go_wp2
      go_loopw [5, 7] (fun ov i wr => ∃ (m : Nat) (out2 : List GR.Ed), k + 1 ≤ m ∧ m ≤ n ∧ i = .int .i64 m ∧ EdR w wr 50 ov out2 ∧ Hid (out2 = out ++ GR.toEd (GR.linksTo (GR.adjOf l) k m))) (fun _ i _ => n - (intOf i).toNat)
      case atStart => exact ⟨k + 1, out, by omega, by omega, by go_num, HI0.out, Lib.hid (by rw [GR.linksTo_start]; simp [GR.toEd])⟩
      case round =>
        obtain ⟨m, out2, hm1, hm2, rfl, hI, HO2⟩ := hrel
        obtain ⟨p2, q2, rfl⟩ := row_slice hI.row
        have hlen2 : out2.length ≤ 64 * 64 + 64 := by
          rw [HO2.out, List.length_append, GR.toEd_length]
          have := GR.linksTo_length (GR.adjOf l) k m
          omega
        by_cases hlt2 : m < n
        · have hcall := HH.out (k : Int) (m : Int) wr hI.ext
          have hstep := GR.linksTo_next (GR.adjOf l) (a := k) (m := m) (by omega)
          rw [GR.adjOf_eq] at hstep
          obtain ⟨bb, hbb⟩ : ∃ b, GR.hasE l (k : Int) (m : Int) = b := ⟨_, rfl⟩
          rw [hbb] at hcall hstep
          have HC := Lib.hid hcall
          have HST := Lib.hid hstep
          have HI := Lib.hid hI
          clear hcall hstep hbb hI
          go_wp2_with fail
          refine HC.out.mono ?_
          rintro e w1 ⟨rfl, g1⟩
          cases bb with
          | false =>
            go_wp2
            go_roundw
            case rel => exact ⟨m + 1, out2, by omega, by omega, by go_num, HI.out.more g1, Lib.hid (by rw [HST.out, HO2.out]; simp)⟩
            case measure => simp [intOf]; omega
          | true =>
            have hrow := (row_to HI.out.row g1).alloc (.cells #[.int .i64 k, .int .i64 m] 50)
            have HROW := Lib.hid hrow
            have hs1 : w.heap.size ≤ w1.heap.size := (HI.out.ext.trans g1).size
            have hs2 : w.heap.size ≤ (w1.alloc (.cells #[.int .i64 k, .int .i64 m] 50)).heap.size := by rw [World.size_alloc]; omega
            have hb1 : out2.length + 1 ≤ maxLen := by unfold maxLen; omega
            have hb2 : (out2.length + 1) * 16 ≤ 140737488355328 := by omega
            have hnew := cell_two_new w1 (.int .i64 k) (.int .i64 m) 50
            have HNEW := Lib.hid hnew
            clear hrow hnew
            go_wp2_with (at_builtin; refine wpList_append_own_at _ rfl _ _ 22 rfl w.heap.size 50 i0 (.agg #[.int .i64 0, .int .i64 0]) 2 16 Try.underlying22 Hi.out hz0 hz1 hz2 rfl (by decide) _ _ _ rfl HROW.out ⟨w1.heap.size, 0, none⟩ 1 1 [.int .i64 k, .int .i64 m] rfl rfl HNEW.out (by simp [Value.oneCell']) hb1 hb2 hs2 ?_; intro v' w6 hown' hgrow _ hat)
            go_roundw
            case rel =>
              refine ⟨m + 1, out2 ++ [((k : Int), (m : Int))], by omega, by omega, by go_num, ⟨?_, ext_grownV ((HI.out.ext.trans g1).alloc _) HROW.out hgrow (Nat.le_refl _)⟩, Lib.hid (by rw [HST.out, HO2.out, GR.toEd_app, List.append_assoc]; rfl)⟩
              rw [edCells_app, List.length_append]
              exact hown'
            case measure => simp [intOf]; omega
        · obtain rfl : m = n := by omega
          have HI := Lib.hid hI
          clear hI
          go_wp2
          go_roundw
          case rel => exact ⟨k + 1, out2, by omega, by go_num, HI.out, Lib.hid (by rw [HO2.out, HO.out, GR.linksOf_next, GR.toEd_app, GR.linksTo_eq])⟩
          case measure => simp [intOf]; omega
    · obtain rfl : k = n := by omega
      have hfin : EdR w wr 50 (.slice p1 out.length q1) (GR.toEd (GR.linksOf k (GR.adjOf l) k)) := by rw [← HO.out]; exact hI
      have HF := Lib.hid hfin
      clear hI hfin
      go_wp2
      go_ret
      exact ⟨_, rfl, HF.out⟩

set_option maxRecDepth 100000 in
set_option maxHeartbeats 2000000 in
theorem law_same_some (b1 o1 c1 b2 o2 c2 n : Nat) (x : List GR.Ed) (w : World) (hx : x.length = n) (hn : n ≤ 70368744177664) (h1 : EdsAt w b1 o1 x) (h2 : EdsAt w b2 o2 x) :
    Calls Try.prog 18 #[.slice (some ⟨b1, o1, none⟩) n c1, .slice (some ⟨b2, o2, none⟩) n c2] w fun e w' => e = .returned (.bool true) ∧ Ext w w' := by
  have H1 := Lib.hid h1
  have H2 := Lib.hid h2
  have HX := Lib.hid hx
  clear h1 h2 hx
  go_enter Try.func18, Try.ntmps18
  go_wp2
  go_loopw [5] (fun i wr => ∃ (k : Nat), k ≤ n ∧ i = .int .i64 k ∧ Ext w wr) (fun i _ => n - (intOf i).toNat)
  case atStart => exact ⟨0, by omega, rfl, Ext.refl _⟩
  case round =>
    obtain ⟨k, hk, rfl, he⟩ := hrel
    by_cases hlt : k < n
    · have hkx : k < x.length := by rw [HX.out]; exact hlt
      have a1 := he.cell (H1.out k hkx).1
      have a2 := he.cell (H1.out k hkx).2
      have a3 := he.cell (H2.out k hkx).1
      have a4 := he.cell (H2.out k hkx).2
      generalize x[k] = d at *
      have f1 : (d.1 != d.1) = false := bne_self_eq_false _
      have f2 : (d.2 != d.2) = false := bne_self_eq_false _
      go_wp2
      refine wp_region_noPanic ?_
      go_quiet (fail)
      refine NoPanic.normal ?_
      go_wp2
      go_roundw
      case rel => exact ⟨k + 1, by omega, by go_num, he.trans ((Ext.refl _).drewN _)⟩
      case measure => simp [intOf]; omega
    · obtain rfl : k = n := by omega
      go_wp2
      go_ret
      exact ⟨rfl, he⟩

set_option maxRecDepth 100000 in
theorem law_same_nil (p q : Option Addr) (c1 c2 : Nat) (w : World) :
    Calls Try.prog 18 #[.slice p 0 c1, .slice q 0 c2] w fun e w' => e = .returned (.bool true) ∧ Ext w w' := by
  go_enter Try.func18, Try.ntmps18
  go_wp2
  refine wp_loop_rounds 1 ?_
  rw [rounds_succ]
  go_wp2
  go_ret
  exact ⟨rfl, Ext.refl _⟩

/-- Two lists of the same edges are the same. -/
theorem law_same (u v : Value) (x : List GR.Ed) (w : World) (hu : EdsV w u x) (hv : EdsV w v x) :
    Calls Try.prog 18 #[u, v] w fun e w' => e = .returned (.bool true) ∧ Ext w w' := by
  obtain ⟨p, c, rfl, a2, a4⟩ := hu
  obtain ⟨q, d, rfl, _, b4⟩ := hv
  rcases a4 with a4 | ⟨b, o, rfl, hx⟩
  · obtain rfl := List.length_eq_zero_iff.1 a4
    exact law_same_nil p q c d w
  · rcases b4 with b4 | ⟨b', o', rfl, hy⟩
    · obtain rfl := List.length_eq_zero_iff.1 b4
      exact law_same_nil _ q c d w
    · exact law_same_some b o c b' o' d x.length x w rfl a2 hx hy
end Go.Proofs.Ytcckdogcjjimoaa
