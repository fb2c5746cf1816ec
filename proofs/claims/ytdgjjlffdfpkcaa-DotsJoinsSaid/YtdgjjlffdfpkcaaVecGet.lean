/- What find, Get, Has and Size of vectors answer. -/
import Derived.Test.YtdgjjlffdfpkcaaSearch
import Derived.Test.YtdgjjlffdfpkcaaRefVec
import Derived.Test.YtdgjjlffdfpkcaaDotsTot
import Derived.Test.YtdgjjlffdfpkcaaQuietExt
namespace Go.Proofs.Ytdgjjlffdfpkcaa
open Go.RowKit

theorem DotsV.two {w : World} {v : Value} {l : List Dot} (h : DotsV w v l) : DotsV2 w v l := by
  obtain ⟨p, c, h1, _, _, h4⟩ := h; exact ⟨p, c, h1, h4⟩

/-- The place of a peer in a vector. -/
theorem lower_peer {l : List Dot} (h : Vec.Ok l) {p : Int} {i : Nat} (hl : Lower (fun d => d.1 - p) l i) :
    (hit (fun d => d.1 - p) l i = true → ∃ hi : i < l.length, l[i].2 = Vec.cnt l p) ∧ (hit (fun d => d.1 - p) l i = false → Vec.cnt l p = 0) := by
  obtain ⟨h1, h2, h3⟩ := hl
  simp only at h2 h3
  by_cases hi : i < l.length
  · unfold hit
    rw [List.getElem?_eq_getElem hi]
    simp only [decide_eq_true_eq, decide_eq_false_iff_not]
    refine ⟨fun h0 => ⟨hi, ?_⟩, fun h0 => Vec.cnt_none fun d hd e => ?_⟩
    · have := DS.cnt_mem h (List.getElem_mem hi)
      rw [show l[i].1 = p by omega] at this
      exact this.symm
    · obtain ⟨m, hm, rfl⟩ := List.getElem_of_mem hd
      rcases Nat.lt_trichotomy m i with hmi | hmi | hmi
      · have := h2 m hm hmi; omega
      · subst hmi; omega
      · have := List.pairwise_iff_getElem.1 h.2 i m hi hm hmi
        have := h3 i hi (Nat.le_refl _)
        omega
  · unfold hit
    rw [List.getElem?_eq_none (by omega)]
    refine ⟨fun h0 => (by cases h0), fun _ => Vec.cnt_none fun d hd e => ?_⟩
    obtain ⟨m, hm, rfl⟩ := List.getElem_of_mem hd
    have := h2 m hm (by omega)
    omega

set_option maxRecDepth 100000 in
theorem vec_find (v : Value) (l : List Dot) (p : Int) (w : World) (h : DotsV w v l) (ho : Vec.Ok l) (hp : 0 ≤ p ∧ p < 64) :
    Calls Try.prog 52 #[v, .int .i64 p] w fun e w' => e = .returned (.int .i64 (Vec.cnt l p)) ∧ Ext w w' := by
  have hs := search_peer v l p w h.two (fun d hd w => find_one d p hp ⟨(ho.1 d hd).1, (ho.1 d hd).2.1⟩ w) (fun i j hi hj hij hlt => by
    rcases Nat.lt_or_ge i j with h' | h'
    · have := List.pairwise_iff_getElem.1 ho.2 i j hi hj h'; omega
    · obtain rfl : i = j := by omega
      exact hlt)
  obtain ⟨q, c, rfl, hlc, hcm, _, hm, _, hd⟩ := h
  have HS := Lib.hid hs
  have HD := Lib.hid hd
  have HL := Lib.hid (fun i => @lower_peer l ho p i)
  clear hs hd
  go_enter Try.func52, Try.ntmps52
  go_wp2_with fail
  refine HS.out.mono ?_
  rintro e w2 ⟨i, hlo, rfl, g2⟩
  obtain ⟨k1, k2⟩ := HL.out i hlo
  clear hlo HS HL
  cases hb : hit (fun d => d.1 - p) l i with
  | true =>
    obtain ⟨hi, hc⟩ := k1 hb
    clear k1 k2
    rcases HD.out with h0 | ⟨b, off, rfl, hs⟩
    · omega
    have a2 := g2.cell (hs i hi).2
    have HC := Lib.hid hc
    clear hc hb
    go_wp2
    go_ret
    exact ⟨by rw [← HC.out]; rfl, g2⟩
  | false =>
    have HC := Lib.hid (k2 hb)
    clear k1 k2 hb
    go_wp2
    go_ret
    exact ⟨by rw [HC.out]; rfl, g2⟩

theorem rows_one (p : Option Addr) (c : Nat) (a : List Dot) (w : World) (ha : Dots w p a.length a) :
    RowsAt (w.alloc (.cells #[.slice p a.length c] 22)) w.heap.size [⟨p, a.length, c, a⟩] := by
  have he : Ext w (w.alloc (.cells #[.slice p a.length c] 22)) := (Ext.refl _).alloc _
  intro i hi
  match i, hi with
  | 0, _ => exact ⟨alloc_cell _ _ _ 0, ha.ext he⟩

theorem any_one {p : Option Addr} {n c : Nat} {a : List Dot} : (!([⟨p, n, c, a⟩] : List Row).any bad) = decide (Vec.checkE (-1) a = 0) := by simp [bad]

set_option maxRecDepth 100000 in
theorem vec_get (v : Value) (l : List Dot) (p : Int) (w : World) (h : DotsV w v l) :
    Calls Try.prog 29 #[v, .int .i64 p] w fun e w' => e = .returned (.int .i64 (getL l p)) ∧ Ext w w' := by
  have HV := Lib.hid h
  obtain ⟨q, c, rfl, hlc, hcm, hd⟩ := h
  have hT := rows_one q c l w hd
  have hE : Ext w (w.alloc (.cells #[.slice q l.length c] 22)) := (Ext.refl _).alloc _
  have hr := vec_right w.heap.size 1 [⟨q, l.length, c, l⟩] _ rfl (by unfold maxLen; omega) hT
  rw [any_one] at hr
  have HR := Lib.hid hr
  clear hr hT hd
  unfold getL
  by_cases h0 : Vec.checkE (-1) l = 0
  · rw [if_pos h0]
    rw [decide_eq_true h0] at HR
    have ho := Vec.check_ok.1 h0
    have hout := fun h => Vec.cnt_out ho (p := p) h
    clear h0
    rcases (show p < 0 ∨ (0 ≤ p ∧ 64 ≤ p) ∨ (0 ≤ p ∧ p < 64) by omega) with h1 | ⟨h1, h2⟩ | ⟨h1, h2⟩
    · rw [hout (.inl h1)]
      clear hout
      go_enter Try.func29, Try.ntmps29
      go_wp2_with fail
      refine HR.out.mono ?_
      rintro e w2 ⟨rfl, g2⟩
      go_wp2
      go_ret
      exact ⟨rfl, hE.trans g2⟩
    · rw [hout (.inr h2)]
      clear hout
      go_enter Try.func29, Try.ntmps29
      go_wp2_with fail
      refine HR.out.mono ?_
      rintro e w2 ⟨rfl, g2⟩
      go_wp2
      go_ret
      exact ⟨rfl, hE.trans g2⟩
    · clear hout
      go_enter Try.func29, Try.ntmps29
      go_wp2_with fail
      refine HR.out.mono ?_
      rintro e w2 ⟨rfl, g2⟩
      go_wp2_with fail
      refine (vec_find _ l p _ (HV.out.ext (hE.trans g2)) ho ⟨h1, h2⟩).mono ?_
      rintro e w3 ⟨rfl, g3⟩
      go_wp2
      go_ret
      exact ⟨rfl, (hE.trans g2).trans g3⟩
  · rw [if_neg h0]
    rw [decide_eq_false h0] at HR
    clear h0
    go_enter Try.func29, Try.ntmps29
    go_wp2_with fail
    refine HR.out.mono ?_
    rintro e w2 ⟨rfl, g2⟩
    go_wp2
    go_ret
    exact ⟨rfl, hE.trans g2⟩

set_option maxRecDepth 100000 in
theorem vec_has (v : Value) (l : List Dot) (d : Dot) (w : World) (h : DotsV w v l) :
    Calls Try.prog 35 #[v, dotV d] w fun e w' => e = .returned (.bool (decide (1 ≤ d.2 ∧ d.2 ≤ getL l d.1))) ∧ Ext w w' := by
  unfold dotV
  obtain ⟨d1, d2⟩ := d
  simp only
  have hE : Ext w (w.alloc (.cells #[.int .i64 d1, .int .i64 d2] 26)) := (Ext.refl _).alloc _
  have c1 : (w.alloc (.cells #[.int .i64 d1, .int .i64 d2] 26)).cell? ⟨w.heap.size, 0, none⟩ = some (.int .i64 d1) := alloc_cell w _ _ 0
  have c2 : (w.alloc (.cells #[.int .i64 d1, .int .i64 d2] 26)).cell? ⟨w.heap.size, 1, none⟩ = some (.int .i64 d2) := alloc_cell w _ _ 1
  have hg := fun (p : ExtOf (w.alloc (.cells #[.int .i64 d1, .int .i64 d2] 26))) => vec_get v l d1 p.to (h.ext (hE.trans p.ext))
  obtain ⟨q, c, rfl, _⟩ := h
  by_cases h1 : 1 ≤ d2
  · generalize getL l d1 = r at *
    have HG := Lib.hid hg
    clear hg
    have hd1 : decide (d2 ≥ 1) = true := decide_eq_true h1
    have hres : decide (1 ≤ d2 ∧ d2 ≤ r) = decide (d2 ≤ r) := by simp [h1]
    rw [hres]
    clear hres
    go_enter Try.func35, Try.ntmps35
    go_wp2
    generalize hw1 : (w.alloc (.cells #[.int .i64 d1, .int .i64 d2] 26)) = w1 at *
    have e1 := cell_ext c1
    have e2 := cell_ext c2
    clear c1 c2 h1 hw1
    refine wp_region_quiet_ext (by kernel_rfl) (by kernel_rfl) ?_
    repeat (go_big_quiet_step ((go_at_call 29; exact calls_ext (HG.out _))))
    refine wpQuiet_nil ?_
    intro w2 g2
    go_wp2
    go_ret
    exact ⟨rfl, hE.trans g2⟩
  · have hd1 : decide (d2 ≥ 1) = false := decide_eq_false h1
    have hres : decide (1 ≤ d2 ∧ d2 ≤ getL l d1) = false := decide_eq_false fun h => h1 h.1
    rw [hres]
    clear hres hg
    go_enter Try.func35, Try.ntmps35
    go_wp2
    generalize hw1 : (w.alloc (.cells #[.int .i64 d1, .int .i64 d2] 26)) = w1 at *
    have e1 := cell_ext c1
    have e2 := cell_ext c2
    clear c1 c2 h1 hw1
    refine wp_region_quiet_ext (by kernel_rfl) (by kernel_rfl) ?_
    repeat (go_big_quiet_step (fail))
    refine wpQuiet_nil ?_
    intro w2 g2
    go_wp2
    go_ret
    exact ⟨rfl, hE.trans g2⟩

end Go.Proofs.Ytdgjjlffdfpkcaa
