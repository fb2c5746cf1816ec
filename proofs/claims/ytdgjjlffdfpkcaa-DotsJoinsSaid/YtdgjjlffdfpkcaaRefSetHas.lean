/- What the document's in, Has, Len, Size and Same answer. -/
import Derived.Test.YtdgjjlffdfpkcaaRefSetCheck
import Derived.Test.YtdgjjlffdfpkcaaSetHas
import Derived.Test.YtdgjjlffdfpkcaaRefSame
namespace Go.Proofs.Ytdgjjlffdfpkcaa
open Go.RowKit

set_option maxRecDepth 100000 in
theorem ref_in_nil (p : Option Addr) (c : Nat) (d : Dot) (w : World) :
    Calls Try.prog 37 #[.slice p 0 c, dotV d] w fun e w' => e = .returned (.bool false) ∧ Ext w w' := by
  unfold dotV
  go_enter Try.func37, Try.ntmps37
  go_wp2
  refine wp_loop_rounds 1 ?_
  rw [rounds_succ]
  go_wp2
  go_ret
  exact ⟨rfl, (Ext.refl _).alloc _⟩

set_option maxRecDepth 100000 in
set_option maxHeartbeats 1000000 in
theorem ref_in_some (b off n c : Nat) (l : List Dot) (d : Dot) (w : World) (hn : l.length = n) (hm : n ≤ 70368744177664) (hl : DotsAt w b off l) :
    Calls Try.prog 37 #[.slice (some ⟨b, off, none⟩) n c, dotV d] w fun e w' => e = .returned (.bool (decide (d ∈ l))) ∧ Ext w w' := by
  unfold dotV
  obtain ⟨f1, f2⟩ := d
  have HL : Hid (DotsAt w b off l) := hl
  have HN := Lib.hid hn
  clear hl hn
  have hE : Ext w (w.alloc (.cells #[.int .i64 f1, .int .i64 f2] 26)) := (Ext.refl _).alloc _
  have b1 : (w.alloc (.cells #[.int .i64 f1, .int .i64 f2] 26)).cell? ⟨w.heap.size, 0, none⟩ = some (.int .i64 f1) := alloc_cell w _ _ 0
  have b2 : (w.alloc (.cells #[.int .i64 f1, .int .i64 f2] 26)).cell? ⟨w.heap.size, 1, none⟩ = some (.int .i64 f2) := alloc_cell w _ _ 1
  obtain ⟨r, hr⟩ : ∃ r, decide ((f1, f2) ∈ l) = r := ⟨_, rfl⟩
  have hr0 : decide ((f1, f2) ∈ l.drop 0) = r := hr
  simp only [hr]
  have HR := Lib.hid hr0
  clear hr hr0
  go_enter Try.func37, Try.ntmps37
  go_wp2
  generalize hw1 : (w.alloc (.cells #[.int .i64 f1, .int .i64 f2] 26)) = w1 at *
  go_loopw [5] (fun i wr => ∃ (k : Nat), k ≤ n ∧ i = .int .i64 k ∧ decide ((f1, f2) ∈ l.drop k) = r ∧ Ext w1 wr) (fun i _ => n - (intOf i).toNat)
  case atStart => exact ⟨0, by omega, rfl, HR.out, Ext.refl _⟩
  case round =>
    obtain ⟨k, hk, rfl, hck, he⟩ := hrel
    by_cases hlt : k < n
    · have hkl : k < l.length := by rw [HN.out]; exact hlt
      have a1 := he.cell (hE.cell (HL.out k hkl).1)
      have a2 := he.cell (hE.cell (HL.out k hkl).2)
      have a3 := he.cell b1
      have a4 := he.cell b2
      rw [List.drop_eq_getElem_cons hkl] at hck
      simp only [List.mem_cons] at hck
      generalize l[k] = d at a1 a2 hck
      obtain ⟨d1, d2⟩ := d
      simp only at a1 a2
      by_cases e1 : d1 = f1
      · by_cases e2 : d2 = f2
        · rw [decide_eq_true (.inl (by rw [e1, e2]))] at hck
          subst hck e1 e2
          clear HR
          go_wp2
          refine wp_region_noPanic ?_
          go_region
          refine NoPanic.normal ?_
          go_wp2
          go_ret
          exact ⟨rfl, hE.trans (he.drewN 1)⟩
        · have hne : ¬ ((f1, f2) = (d1, d2)) := fun e => e2 (by cases e; rfl)
          simp only [hne, false_or] at hck
          have HK := Lib.hid hck
          clear hck hne
          go_wp2
          refine wp_region_noPanic ?_
          go_region
          refine NoPanic.normal ?_
          go_wp2
          go_roundw
          case rel => exact ⟨k + 1, by omega, by go_num, HK.out, he.drewN 1⟩
          case measure => simp [intOf]; omega
      · have hne : ¬ ((f1, f2) = (d1, d2)) := fun e => e1 (by cases e; rfl)
        simp only [hne, false_or] at hck
        have HK := Lib.hid hck
        clear hck hne
        go_wp2
        refine wp_region_noPanic ?_
        go_region
        refine NoPanic.normal ?_
        go_wp2
        go_roundw
        case rel => exact ⟨k + 1, by omega, by go_num, HK.out, he.drewN 1⟩
        case measure => simp [intOf]; omega
    · obtain rfl : k = n := by omega
      rw [List.drop_eq_nil_of_le (by rw [HN.out]; omega)] at hck
      obtain rfl : false = r := by rw [← hck]; simp
      go_wp2
      go_ret
      exact ⟨rfl, hE.trans he⟩

/-- Is a dot in a list? -/
theorem ref_in (v : Value) (l : List Dot) (d : Dot) (w : World) (h : DotsV w v l) :
    Calls Try.prog 37 #[v, dotV d] w fun e w' => e = .returned (.bool (decide (d ∈ l))) ∧ Ext w w' := by
  obtain ⟨p, c, rfl, _, _, h1, h2, _, h3 | ⟨b, off, rfl, h4⟩⟩ := h
  · obtain rfl : l = [] := List.eq_nil_of_length_eq_zero h3
    refine (ref_in_nil p c d w).mono ?_
    rintro e w' ⟨rfl, h⟩
    exact ⟨by simp, h⟩
  · exact ref_in_some b off _ c l d w rfl h2 h4

set_option maxRecDepth 100000 in
theorem ref_vec_has (v : Value) (l : List Dot) (d : Dot) (w : World) (h : DotsV w v l) :
    Calls Try.prog 36 #[v, dotV d] w fun e w' => e = .returned (.bool (decide (1 ≤ d.2 ∧ d.2 ≤ getL l d.1))) ∧ Ext w w' := by
  unfold dotV
  obtain ⟨d1, d2⟩ := d
  simp only
  have hE : Ext w (w.alloc (.cells #[.int .i64 d1, .int .i64 d2] 26)) := (Ext.refl _).alloc _
  have c1 : (w.alloc (.cells #[.int .i64 d1, .int .i64 d2] 26)).cell? ⟨w.heap.size, 0, none⟩ = some (.int .i64 d1) := alloc_cell w _ _ 0
  have c2 : (w.alloc (.cells #[.int .i64 d1, .int .i64 d2] 26)).cell? ⟨w.heap.size, 1, none⟩ = some (.int .i64 d2) := alloc_cell w _ _ 1
  have hg := fun (p : ExtOf (w.alloc (.cells #[.int .i64 d1, .int .i64 d2] 26))) => ref_get v l d1 p.to (h.ext (hE.trans p.ext))
  obtain ⟨q, c, rfl, _⟩ := h
  by_cases h1 : 1 ≤ d2
  · generalize getL l d1 = r at *
    have HG := Lib.hid hg
    clear hg
    have hd1 : decide (d2 ≥ 1) = true := decide_eq_true h1
    have hres : decide (1 ≤ d2 ∧ d2 ≤ r) = decide (r ≥ d2) := by simp [h1]
    rw [hres]
    clear hres
    go_enter Try.func36, Try.ntmps36
    go_wp2
    generalize hw1 : (w.alloc (.cells #[.int .i64 d1, .int .i64 d2] 26)) = w1 at *
    have e1 := cell_ext c1
    have e2 := cell_ext c2
    clear c1 c2 h1 hw1
    refine wp_region_quiet_ext (by kernel_rfl) (by kernel_rfl) ?_
    repeat (go_big_quiet_step ((go_at_call 33; exact calls_ext (HG.out _))))
    refine wpQuiet_nil ?_
    intro w2 g2
    go_wp2
    go_ret
    exact ⟨rfl, hE.trans g2⟩
  · have hd1 : decide (d2 ≥ 1) = false := decide_eq_false h1
    have hres : decide (1 ≤ d2 ∧ d2 ≤ getL l d1) = false := decide_eq_false fun h => h1 h.1
    rw [hres]
    clear hres hg
    go_enter Try.func36, Try.ntmps36
    go_wp2
    generalize hw1 : (w.alloc (.cells #[.int .i64 d1, .int .i64 d2] 26)) = w1 at *
    have e1 := cell_ext c1
    have e2 := cell_ext c2
    clear c1 c2 h1 hw1
    refine wp_region_quiet_ext (by kernel_rfl) (by kernel_rfl) ?_
    repeat (go_big_quiet_step (fail))
    refine wpQuiet_nil ?_
    intro w2 g2
    go_wp2
    go_ret
    exact ⟨rfl, hE.trans g2⟩

set_option maxRecDepth 100000 in
set_option maxHeartbeats 1000000 in
theorem ref_vec_size (v : Value) (l : List Dot) (w : World) (h : DotsV w v l) (ho : Vec.Ok l) :
    Calls Try.prog 39 #[v] w fun e w' => e = .returned (.int .i64 (DS.tot l)) ∧ Ext w w' := by
  have hg := fun w1 (he : Ext w w1) (i : Nat) => ref_get v l i w1 (h.ext he)
  have hgl : ∀ p, getL l p = Vec.cnt l p := fun p => if_pos (Vec.check_ok.2 ho)
  simp only [hgl] at hg
  have ht := DS.tot_eq ho
  have hb : ∀ k, k ≤ 64 → 0 ≤ DS.sumTo (fun i => Vec.cnt l i) k ∧ DS.sumTo (fun i => Vec.cnt l i) k ≤ k * 1048576 := fun k _ => DS.sumTo_bound fun i _ => ⟨Vec.cnt_nonneg ho i, Vec.cnt_le ho i⟩
  have hc : ∀ i : Nat, 0 ≤ Vec.cnt l i ∧ Vec.cnt l i ≤ 1048576 := fun i => ⟨Vec.cnt_nonneg ho i, Vec.cnt_le ho i⟩
  rw [ht]
  have hs : ∀ k, DS.sumTo (fun i => Vec.cnt l i) (k + 1) = DS.sumTo (fun i => Vec.cnt l i) k + Vec.cnt l k := fun k => rfl
  obtain ⟨q, c, rfl, _⟩ := h
  generalize hS : DS.sumTo (fun i => Vec.cnt l i) = S at *
  have h0 : S 0 = 0 := by rw [← hS]; rfl
  generalize hC : (fun i : Nat => Vec.cnt l i) = C at *
  have hC2 : ∀ i : Nat, Vec.cnt l i = C i := fun i => by rw [← hC]
  simp only [hC2] at hg hc hs
  have HG := Lib.hid hg
  have HS := Lib.hid hs
  have HB := Lib.hid hb
  have HC := Lib.hid hc
  have H0 := Lib.hid h0
  clear hg hs hb hc h0 ht hgl hC2 hS hC ho
  go_enter Try.func39, Try.ntmps39
  go_wp2
  go_loopw [3, 4] (fun s i wr => ∃ (k : Nat), k ≤ 64 ∧ i = .int .i64 k ∧ s = .int .i64 (S k) ∧ Ext w wr) (fun _ i _ => 64 - (intOf i).toNat)
  case atStart => exact ⟨0, by omega, rfl, by rw [H0.out], Ext.refl _⟩
  case round =>
    obtain ⟨k, hk, rfl, rfl, he⟩ := hrel
    by_cases hlt : k < 64
    · have hi : (k : Int) < 64 := by omega
      have b1 := HB.out k hk
      have b2 := HC.out k
      have b3 := HS.out k
      have hcall := HG.out wr he k
      generalize C k = ck at *
      generalize S k = s1 at *
      have HCA := Lib.hid hcall
      have HB3 := Lib.hid b3
      clear hcall b3
      have b4 : s1 ≤ 67108864 := by omega
      go_wp2_with fail
      refine HCA.out.mono ?_
      rintro e w2 ⟨rfl, g2⟩
      go_wp2
      go_roundw
      case rel => exact ⟨k + 1, by omega, by go_num, by rw [HB3.out], he.trans g2⟩
      case measure => simp [intOf]; omega
    · obtain rfl : k = 64 := by omega
      go_wp2
      go_ret
      exact ⟨rfl, he⟩

set_option maxRecDepth 100000 in
theorem ref_set_same (u v : Value) (s t : DS.S) (w : World) (hu : SetV w u s) (hv : SetV w v t) :
    Calls Try.prog 17 #[u, v] w fun e w' => e = .returned (.bool (decide (s = t))) ∧ Ext w w' := by
  obtain ⟨ub, ue, rfl, hub, hue⟩ := hu
  obtain ⟨vb, ve, rfl, hvb, hve⟩ := hv
  have hs0 : (w.alloc (.cells #[ub, ue] 24)).heap.size = w.heap.size + 1 := World.size_alloc _ _
  have hE : Ext w ((w.alloc (.cells #[ub, ue] 24)).alloc (.cells #[vb, ve] 24)) := ((Ext.refl w).alloc _).alloc _
  have c1 : ((w.alloc (.cells #[ub, ue] 24)).alloc (.cells #[vb, ve] 24)).cell? ⟨w.heap.size, 0, none⟩ = some ub := ((Ext.refl _).alloc _).cell (alloc_cell w _ _ 0)
  have c2 : ((w.alloc (.cells #[ub, ue] 24)).alloc (.cells #[vb, ve] 24)).cell? ⟨w.heap.size, 1, none⟩ = some ue := ((Ext.refl _).alloc _).cell (alloc_cell w _ _ 1)
  have c3 : ((w.alloc (.cells #[ub, ue] 24)).alloc (.cells #[vb, ve] 24)).cell? ⟨w.heap.size + 1, 0, none⟩ = some vb := by rw [← hs0]; exact alloc_cell _ _ _ 0
  have c4 : ((w.alloc (.cells #[ub, ue] 24)).alloc (.cells #[vb, ve] 24)).cell? ⟨w.heap.size + 1, 1, none⟩ = some ve := by rw [← hs0]; exact alloc_cell _ _ _ 1
  have h1 := fun w1 (he : Ext w w1) => ref_same ub vb s.base t.base w1 (hub.ext he) (hvb.ext he)
  have h2 := fun w1 (he : Ext w w1) => ref_same ue ve s.extra t.extra w1 (hue.ext he) (hve.ext he)
  obtain ⟨p1, k1, rfl, _⟩ := hub
  obtain ⟨p2, k2, rfl, _⟩ := hue
  obtain ⟨p3, k3, rfl, _⟩ := hvb
  obtain ⟨p4, k4, rfl, _⟩ := hve
  have hst : (s = t) ↔ (s.base = t.base ∧ s.extra = t.extra) := by cases s; cases t; simp
  have hd : decide (s = t) = (decide (s.base = t.base) && decide (s.extra = t.extra)) := by
    by_cases e1 : s.base = t.base <;> by_cases e2 : s.extra = t.extra <;> simp [hst, e1, e2]
  rw [hd]
  clear hd hst
  have H1 := Lib.hid h1
  have H2 := Lib.hid h2
  clear h1 h2 hs0
  generalize s.base.length = n1 at *
  generalize s.extra.length = n2 at *
  generalize t.base.length = n3 at *
  generalize t.extra.length = n4 at *
  generalize decide (s.extra = t.extra) = r2 at *
  generalize decide (s.base = t.base) = r1 at *
  cases r1 with
  | true =>
    go_enter Try.func17, Try.ntmps17
    go_wp2_with fail
    refine (H1.out _ hE).mono ?_
    rintro e w2 ⟨rfl, g2⟩
    have f2 := g2.cell c2
    have f4 := g2.cell c4
    go_wp2_with fail
    refine (H2.out _ (hE.trans g2)).mono ?_
    rintro e w3 ⟨rfl, g3⟩
    go_wp2
    go_ret
    exact ⟨rfl, hE.trans (g2.trans g3)⟩
  | false =>
    go_enter Try.func17, Try.ntmps17
    go_wp2_with fail
    refine (H1.out _ hE).mono ?_
    rintro e w2 ⟨rfl, g2⟩
    go_wp2
    go_ret
    exact ⟨rfl, hE.trans g2⟩

end Go.Proofs.Ytdgjjlffdfpkcaa
