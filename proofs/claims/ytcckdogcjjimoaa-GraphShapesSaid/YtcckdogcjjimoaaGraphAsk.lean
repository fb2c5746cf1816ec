/- What Far, Wide and Whole of a graph answer. -/
import Derived.Test.YtcckdogcjjimoaaGraphWalk
import Derived.Test.YtcckdogcjjimoaaShapes
namespace Go.Proofs.Ytcckdogcjjimoaa
open Go.RowKit

theorem maxOf_snoc (a : Int) (l : List Int) (x : Int) : GR.maxOf a (l ++ [x]) = max (GR.maxOf a l) x := by rw [GR.maxOf_app]; rfl
theorem maxOf_row (w r0 : Int) (t : List Int) : max w (GR.maxOf r0 (r0 :: t)) = GR.maxOf w (r0 :: t) := by
  show max w (GR.maxOf (max r0 r0) t) = GR.maxOf (max w r0) t
  rw [show max r0 r0 = r0 by omega, GR.maxOf_max]

theorem maxOf_row' (w : Int) (l : List Int) (h : 0 < l.length) : max w (GR.maxOf l[0] l) = GR.maxOf w l := by
  cases l with
  | nil => simp at h
  | cons a t => exact maxOf_row _ a t

set_option maxRecDepth 100000 in
set_option maxHeartbeats 1000000 in
theorem ints_max (b o n c : Nat) (l : List Int) (w : World) (hn : l.length = n) (hn1 : 1 ≤ n) (hm : n ≤ 100000) (hl : IntsAt w b o l) :
    Calls Try.prog 34 #[.slice (some ⟨b, o, none⟩) n c] w fun e w' => e = .returned (.int .i64 (GR.maxOf (l[0]'(by omega)) l)) ∧ w = w' := by
  have h0 := hl 0 (by omega)
  rw [Nat.add_zero] at h0
  obtain ⟨a, ha⟩ : ∃ a, l[0]'(by omega) = a := ⟨_, rfl⟩
  rw [ha] at h0 ⊢
  have ht1 : l.take 1 = [a] := by rw [take_next l 0 (by omega), ha]; rfl
  have HT1 := Lib.hid ht1
  have HL := Lib.hid hl
  have HN := Lib.hid hn
  clear hl hn ha ht1
  go_enter Try.func34, Try.ntmps34
  go_wp2
  go_loop [3, 4] (fun mv i => ∃ (k : Nat), 1 ≤ k ∧ k ≤ n ∧ i = .int .i64 k ∧ mv = .int .i64 (GR.maxOf a (l.take k))) (fun _ i => n - (intOf i).toNat)
  case atStart => exact ⟨1, by omega, hn1, rfl, by rw [HT1.out]; show _ = Value.int .i64 (max a a); rw [show max a a = a by omega]⟩
  case round =>
    obtain ⟨k, hk1, hk, rfl, rfl⟩ := hrel
    by_cases hlt : k < n
    · have hkl : k < l.length := by rw [HN.out]; exact hlt
      have a1 := HL.out k hkl
      have hsn := maxOf_snoc a (l.take k) l[k]
      rw [← take_next l k hkl] at hsn
      generalize l[k] = x at *
      generalize GR.maxOf a (l.take k) = m at *
      have HSN := Lib.hid hsn
      clear hsn
      go_wp2
      all_goals
        go_round
        case rel => exact ⟨k + 1, by omega, by omega, by go_num, by rw [HSN.out]; try (congr 1; omega)⟩
        case measure => simp [intOf]; omega
    · obtain rfl : k = n := by omega
      rw [List.take_of_length_le (by rw [HN.out]; omega)]
      go_wp2
      go_ret
      exact ⟨rfl, rfl⟩

set_option maxRecDepth 100000 in
set_option maxHeartbeats 1000000 in
theorem index_int_some (b o n c : Nat) (l : List Int) (z : Int) (w : World) (hn : l.length = n) (hm : n ≤ 100000) (hl : IntsAt w b o l) :
    Calls Try.prog 49 #[.slice (some ⟨b, o, none⟩) n c, .int .i64 z] w fun e w' => (∃ i : Int, e = .returned (.int .i64 i) ∧ decide (i ≥ 0) = l.contains z) ∧ w = w' := by
  have HL := Lib.hid hl
  have HN := Lib.hid hn
  clear hl hn
  obtain ⟨r, hr⟩ : ∃ r, l.contains z = r := ⟨_, rfl⟩
  rw [hr]
  have HR := Lib.hid hr
  clear hr
  go_enter Try.func49, Try.ntmps49
  go_wp2
  go_loopw [8] (fun i wr => ∃ (k : Nat), k ≤ n ∧ i = .int .i64 k ∧ z ∉ l.take k ∧ w = wr) (fun i _ => n - (intOf i).toNat)
  case atStart => exact ⟨0, by omega, rfl, by simp, rfl⟩
  case round =>
    obtain ⟨k, hk, rfl, hno, rfl⟩ := hrel
    by_cases hlt : k < n
    · have hkl : k < l.length := by rw [HN.out]; exact hlt
      have a1 := HL.out k hkl
      have hmem : l[k] ∈ l := List.getElem_mem hkl
      have hnx := take_next l k hkl
      generalize l[k] = d at *
      have HNO := Lib.hid hno
      have HNX := Lib.hid hnx
      clear hno hnx
      by_cases he : z = d
      · have f1 : (z == d) = true := beq_iff_eq.2 he
        have HE := Lib.hid (show l.contains z = true by rw [List.contains_iff_mem, he]; exact hmem)
        have hk0 : (0 : Int) ≤ k := Int.natCast_nonneg k
        clear he hmem
        go_wp2
        go_ret
        exact ⟨⟨k, rfl, by rw [← HR.out, HE.out]; exact decide_eq_true hk0⟩, rfl⟩
      · have f1 : (z == d) = false := beq_eq_false_iff_ne.2 he
        have HE := Lib.hid he
        clear he hmem
        go_wp2
        go_roundw
        case rel => exact ⟨k + 1, by omega, by go_num, by rw [HNX.out, List.mem_append, List.mem_singleton]; exact fun h => h.elim HNO.out HE.out, trivial⟩
        case measure => simp [intOf]; omega
    · obtain rfl : k = n := by omega
      rw [List.take_of_length_le (by rw [HN.out]; omega)] at hno
      have HE := Lib.hid (show l.contains z = false by rw [← Bool.not_eq_true, List.contains_iff_mem]; exact hno)
      clear hno
      go_wp2
      go_ret
      exact ⟨⟨-1, rfl, by rw [← HR.out, HE.out]; rfl⟩, rfl⟩

set_option maxRecDepth 100000 in
theorem contains_int (b o n c : Nat) (l : List Int) (z : Int) (w : World) (hn : l.length = n) (hm : n ≤ 100000) (hl : IntsAt w b o l) :
    Calls Try.prog 35 #[.slice (some ⟨b, o, none⟩) n c, .int .i64 z] w fun e w' => e = .returned (.bool (l.contains z)) ∧ w = w' := by
  have HI := Lib.hid (index_int_some b o n c l z w hn hm hl)
  obtain ⟨r, hr⟩ : ∃ r, l.contains z = r := ⟨_, rfl⟩
  rw [hr] at HI ⊢
  clear hr hm hl hn
  go_enter Try.func35, Try.ntmps35
  go_wp2_with fail
  refine HI.out.mono ?_
  rintro e w1 ⟨⟨i, rfl, hir⟩, rfl⟩
  have HIR := Lib.hid hir
  clear hir
  go_wp2
  go_ret
  exact ⟨by rw [← HIR.out]; rfl, rfl⟩

theorem ways_at {W : World} {v : Value} {n : Nat} {adj : Nat → Nat → Bool} {p : Nat} (h : IntsV W v ((List.range n).map (GR.dz n adj p))) (hn : 1 ≤ n) : ∃ b o c, v = .slice (some ⟨b, o, none⟩) n c ∧ IntsAt W b o (GR.row n adj p) := by
  obtain ⟨q, c, rfl, h1, h2⟩ := h
  rw [List.length_map, List.length_range] at h1 h2 ⊢
  rcases h2 with h2 | ⟨b, o, rfl, h2⟩
  · omega
  · exact ⟨b, o, c, rfl, h2⟩

set_option maxRecDepth 100000 in
set_option maxHeartbeats 1000000 in
theorem graph_far (B n c : Nat) (adj : Nat → Nat → Bool) (pt : Option Addr) (p q : Int) (w : World) (h : GraphAt w B n adj pt c) :
    Calls Try.prog 12 #[.pointer (some ⟨B, 0, none⟩), .int .i64 p, .int .i64 q] w fun e w' => e = .returned (.int .i64 (GR.farZ n adj p q)) ∧ Ext w w' := by
  have c0 := h.two.c0
  have ht1 := graph_there B n p w c0
  have ht2 := graph_there B n q w c0
  have hn1 := h.pos
  have hn2 := h.le
  have HA := Lib.hid h
  unfold GR.farZ
  by_cases h1 : 0 ≤ p ∧ p < (n : Int)
  · rw [decide_eq_true h1] at ht1
    by_cases h2 : 0 ≤ q ∧ q < (n : Int)
    · rw [decide_eq_true h2] at ht2
      rw [if_pos ⟨h1.1, h1.2, h2⟩]
      obtain ⟨p, rfl⟩ := Int.eq_ofNat_of_zero_le h1.1
      obtain ⟨q, rfl⟩ := Int.eq_ofNat_of_zero_le h2.1
      rw [Int.toNat_natCast, Int.toNat_natCast]
      have HW := Lib.hid (graph_ways B n c adj pt p (by omega) w h)
      have hg := GR.row_get (n := n) (adj := adj) p q (by omega)
      have H1 := Lib.hid ht1
      have H2 := Lib.hid ht2
      have hqn : (q : Int) < (n : Int) := h2.2
      have hql : q < (GR.row n adj p).length := by rw [GR.row_length]; omega
      have hge : (GR.row n adj p)[q]'hql = GR.dz n adj p q := by rw [List.getElem?_eq_getElem hql] at hg; injection hg
      have HGE := Lib.hid hge
      clear ht1 ht2 h1 h2 h hg hge
      generalize GR.dz n adj p q = x at *
      go_enter Try.func12, Try.ntmps12
      go_wp2_with fail
      refine H1.out.mono ?_
      rintro e w1 ⟨rfl, rfl⟩
      go_wp2_with fail
      refine H2.out.mono ?_
      rintro e w1 ⟨rfl, rfl⟩
      go_wp2_with fail
      refine HW.out.mono ?_
      rintro e w2 ⟨v, rfl, hv, g2⟩
      obtain ⟨b, o, cc, rfl, hat⟩ := ways_at hv hn1
      have a1 := hat q hql
      rw [HGE.out] at a1
      clear hat hv
      go_wp2
      go_ret
      exact ⟨rfl, g2⟩
    · rw [decide_eq_false h2] at ht2
      rw [if_neg (by omega)]
      have H1 := Lib.hid ht1
      have H2 := Lib.hid ht2
      clear ht1 ht2 h1 h2 h
      go_enter Try.func12, Try.ntmps12
      go_wp2_with fail
      refine H1.out.mono ?_
      rintro e w1 ⟨rfl, rfl⟩
      go_wp2_with fail
      refine H2.out.mono ?_
      rintro e w1 ⟨rfl, rfl⟩
      go_wp2
      go_ret
      exact ⟨rfl, Ext.refl _⟩
  · rw [decide_eq_false h1] at ht1
    rw [if_neg (by omega)]
    have H1 := Lib.hid ht1
    clear ht1 ht2 h1 h
    go_enter Try.func12, Try.ntmps12
    go_wp2_with fail
    refine H1.out.mono ?_
    rintro e w1 ⟨rfl, rfl⟩
    go_wp2
    go_ret
    exact ⟨rfl, Ext.refl _⟩

set_option maxRecDepth 100000 in
set_option maxHeartbeats 1000000 in
theorem graph_wide (B n c : Nat) (adj : Nat → Nat → Bool) (pt : Option Addr) (w : World) (h : GraphAt w B n adj pt c) :
    Calls Try.prog 14 #[.pointer (some ⟨B, 0, none⟩)] w fun e w' => e = .returned (.int .i64 (GR.wide n adj)) ∧ Ext w w' := by
  have HP := Lib.hid (graph_peers B n w h.two.c0)
  have hn1 := h.pos
  have hn2 := h.le
  have HA := Lib.hid h
  unfold GR.wide
  clear h
  go_enter Try.func14, Try.ntmps14
  go_wp2_with fail
  refine HP.out.mono ?_
  rintro e w1 ⟨rfl, rfl⟩
  go_wp2
  go_loopw [3, 7] (fun mv i wr => ∃ (k : Nat) (m : Int), k ≤ n ∧ i = .int .i64 k ∧ mv = .int .i64 m ∧ Hid (m = GR.maxOf 0 (GR.rows n adj k)) ∧ Ext w wr) (fun _ i _ => n - (intOf i).toNat)
  case atStart => exact ⟨0, 0, by omega, rfl, rfl, Lib.hid rfl, Ext.refl _⟩
  case round =>
    obtain ⟨k, m, hk, rfl, rfl, HMM, hx⟩ := hrel
    by_cases hlt : k < n
    · have HW := Lib.hid (graph_ways B n c adj pt k hlt wr (HA.out.ext hx))
      go_wp2_with fail
      refine HW.out.mono ?_
      rintro e w2 ⟨v, rfl, hv, g2⟩
      obtain ⟨b, o, cc, rfl, hat⟩ := ways_at hv hn1
      have hrl := GR.row_length (n := n) (adj := adj) k
      have hmax := ints_max b o n cc (GR.row n adj k) w2 hrl hn1 (by omega) hat
      have hstep : max m (GR.maxOf ((GR.row n adj k)[0]'(by rw [hrl]; omega)) (GR.row n adj k)) = GR.maxOf 0 (GR.rows n adj (k + 1)) := by
        rw [HMM.out, GR.rows_next, GR.maxOf_app]
        exact maxOf_row' _ _ _
      generalize GR.maxOf ((GR.row n adj k)[0]'(by rw [hrl]; omega)) (GR.row n adj k) = y at *
      have HX := Lib.hid hmax
      have HST := Lib.hid hstep
      clear hmax hstep hrl hat hv
      go_wp2_with fail
      refine HX.out.mono ?_
      rintro e w3 ⟨rfl, rfl⟩
      go_wp2
      all_goals
        go_roundw
        case rel => exact ⟨k + 1, _, by omega, by go_num, rfl, Lib.hid (by rw [← HST.out]; try omega), hx.trans g2⟩
        case measure => simp [intOf]; omega
    · obtain rfl : k = n := by omega
      have HX := Lib.hid hx
      clear hx
      go_wp2
      go_ret
      exact ⟨by rw [← HMM.out]; rfl, HX.out⟩

set_option maxRecDepth 100000 in
set_option maxHeartbeats 1000000 in
theorem graph_whole (B n c : Nat) (adj : Nat → Nat → Bool) (pt : Option Addr) (w : World) (h : GraphAt w B n adj pt c) :
    Calls Try.prog 15 #[.pointer (some ⟨B, 0, none⟩)] w fun e w' => e = .returned (.bool (GR.whole n adj)) ∧ Ext w w' := by
  have hn1 := h.pos
  have hn2 := h.le
  have HW := Lib.hid (graph_ways B n c adj pt 0 (by omega) w h)
  unfold GR.whole
  obtain ⟨r, hr⟩ : ∃ r, (GR.row n adj 0).contains (-1) = r := ⟨_, rfl⟩
  rw [hr]
  have HR := Lib.hid hr
  clear h hr
  go_enter Try.func15, Try.ntmps15
  go_wp2_with fail
  refine HW.out.mono ?_
  rintro e w2 ⟨v, rfl, hv, g2⟩
  obtain ⟨b, o, cc, rfl, hat⟩ := ways_at hv hn1
  have hc := contains_int b o n cc (GR.row n adj 0) (-1) w2 (GR.row_length _) (by omega) hat
  rw [HR.out] at hc
  have HC := Lib.hid hc
  clear hc hat hv
  go_wp2_with fail
  refine HC.out.mono ?_
  rintro e w3 ⟨rfl, rfl⟩
  go_wp2
  go_ret
  exact ⟨rfl, g2⟩
end Go.Proofs.Ytcckdogcjjimoaa
