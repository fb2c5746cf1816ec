/- What the document's Has and Len of sets answer. -/
import Derived.Test.YtdgjjlffdfpkcaaRefSetHas
namespace Go.Proofs.Ytdgjjlffdfpkcaa
open Go.RowKit

set_option maxRecDepth 100000 in
set_option maxHeartbeats 1000000 in
theorem ref_set_has (v : Value) (s : DS.S) (d : Dot) (w : World) (h : SetV w v s) :
    Calls Try.prog 14 #[v, dotV d] w fun e w' => e = .returned (.bool (DS.has s d)) ∧ Ext w w' := by
  have HV := Lib.hid h
  obtain ⟨vb, ve, rfl, hb, he⟩ := h
  unfold dotV
  obtain ⟨d1, d2⟩ := d
  have hE : Ext w ((w.alloc (.cells #[vb, ve] 24)).alloc (.cells #[.int .i64 d1, .int .i64 d2] 26)) := ((Ext.refl w).alloc _).alloc _
  have hw0 : (w.alloc (.cells #[vb, ve] 24)).heap.size = w.heap.size + 1 := World.size_alloc _ _
  have c1 : ((w.alloc (.cells #[vb, ve] 24)).alloc (.cells #[.int .i64 d1, .int .i64 d2] 26)).cell? ⟨w.heap.size, 0, none⟩ = some vb := ((Ext.refl _).alloc _).cell (alloc_cell w _ _ 0)
  have c2 : ((w.alloc (.cells #[vb, ve] 24)).alloc (.cells #[.int .i64 d1, .int .i64 d2] 26)).cell? ⟨w.heap.size, 1, none⟩ = some ve := ((Ext.refl _).alloc _).cell (alloc_cell w _ _ 1)
  have c3 : ((w.alloc (.cells #[vb, ve] 24)).alloc (.cells #[.int .i64 d1, .int .i64 d2] 26)).cell? ⟨w.heap.size + 1, 0, none⟩ = some (.int .i64 d1) := by rw [← hw0]; exact alloc_cell _ _ _ 0
  have c4 : ((w.alloc (.cells #[vb, ve] 24)).alloc (.cells #[.int .i64 d1, .int .i64 d2] 26)).cell? ⟨w.heap.size + 1, 1, none⟩ = some (.int .i64 d2) := by rw [← hw0]; exact alloc_cell _ _ _ 1
  have hck := fun w1 (he : Ext w w1) => ref_set_check _ s w1 (HV.out.ext he)
  have hfi := fun w1 (he' : Ext w w1) => ref_in ve s.extra (d1, d2) w1 (he.ext he')
  have hvh := fun w1 (he : Ext w w1) => ref_vec_has vb s.base (d1, d2) w1 (hb.ext he)
  obtain ⟨pb, cb, rfl, _⟩ := hb
  obtain ⟨pe, ce, rfl, _⟩ := he
  generalize s.base.length = nb at *
  generalize s.extra.length = ne at *
  have HC := Lib.hid hck
  have HF := Lib.hid hfi
  have HH := Lib.hid hvh
  clear hck hfi hvh HV hw0
  obtain ⟨q, hq⟩ : ∃ q, DS.check s = q := ⟨_, rfl⟩
  rw [hq] at HC
  by_cases h0 : q = 0
  · subst h0
    have hok := DS.check_ok.1 hq
    have hg : getL s.base d1 = Vec.cnt s.base d1 := if_pos (Vec.check_ok.2 hok.vec)
    have hres : DS.has s (d1, d2) = (decide ((d1, d2) ∈ s.extra) || decide (1 ≤ d2 ∧ d2 ≤ getL s.base d1)) := by
      rw [hg]
      have hh : DS.Has s (d1, d2) ↔ (1 ≤ d2 ∧ d2 ≤ Vec.cnt s.base d1) ∨ (d1, d2) ∈ s.extra := Iff.rfl
      unfold DS.has
      rw [hq]
      by_cases h1 : 1 ≤ d2 ∧ d2 ≤ Vec.cnt s.base d1
      · rw [decide_eq_true (hh.2 (.inl h1)), decide_eq_true h1]; simp
      · by_cases h2 : (d1, d2) ∈ s.extra
        · rw [decide_eq_true (hh.2 (.inr h2)), decide_eq_true h2]; simp
        · rw [decide_eq_false (fun h => (hh.1 h).elim h1 h2), decide_eq_false h1, decide_eq_false h2]; simp
    rw [hres]
    clear hres hg hok hq
    generalize decide ((d1, d2) ∈ s.extra) = m at *
    generalize decide (1 ≤ d2 ∧ d2 ≤ getL s.base d1) = r at *
    cases r with
    | true =>
      have hor : (m || true) = true := by cases m <;> rfl
      rw [hor]
      go_enter Try.func14, Try.ntmps14
      go_wp2_with fail
      refine (HC.out _ hE).mono ?_
      rintro e w2 ⟨rfl, g2⟩
      have f1 := g2.cell c1
      have f3 := g2.cell c3
      have f4 := g2.cell c4
      go_wp2_with fail
      refine (HH.out _ (hE.trans g2)).mono ?_
      rintro e w3 ⟨rfl, g3⟩
      go_wp2
      go_ret
      exact ⟨rfl, hE.trans (g2.trans g3)⟩
    | false =>
      have hor : (m || false) = m := by cases m <;> rfl
      rw [hor]
      go_enter Try.func14, Try.ntmps14
      go_wp2_with fail
      refine (HC.out _ hE).mono ?_
      rintro e w2 ⟨rfl, g2⟩
      have f1 := g2.cell c1
      have f2 := g2.cell c2
      have f3 := g2.cell c3
      have f4 := g2.cell c4
      go_wp2_with fail
      refine (HH.out _ (hE.trans g2)).mono ?_
      rintro e w3 ⟨rfl, g3⟩
      have k2 := g3.cell f2
      have k3 := g3.cell f3
      have k4 := g3.cell f4
      go_wp2_with fail
      refine (HF.out _ (hE.trans (g2.trans g3))).mono ?_
      rintro e w4 ⟨rfl, g4⟩
      go_wp2
      go_ret
      exact ⟨rfl, hE.trans (g2.trans (g3.trans g4))⟩
  · have hres : DS.has s (d1, d2) = false := by unfold DS.has; rw [hq, decide_eq_false h0]; rfl
    rw [hres]
    have hq0 : ((q : Int) == 0) = false := by rw [beq_eq_false_iff_ne]; omega
    clear hres h0 hq
    go_enter Try.func14, Try.ntmps14
    go_wp2_with fail
    refine (HC.out _ hE).mono ?_
    rintro e w2 ⟨rfl, g2⟩
    go_wp2
    go_ret
    exact ⟨rfl, hE.trans g2⟩

set_option maxRecDepth 100000 in
theorem ref_set_len (v : Value) (s : DS.S) (w : World) (h : SetV w v s) (hl : s.extra.length ≤ 1000000) :
    Calls Try.prog 16 #[v] w fun e w' => e = .returned (.int .i64 (DS.len s)) ∧ Ext w w' := by
  have HV := Lib.hid h
  obtain ⟨vb, ve, rfl, hb, he⟩ := h
  have hE : Ext w (w.alloc (.cells #[vb, ve] 24)) := (Ext.refl w).alloc _
  have c1 : (w.alloc (.cells #[vb, ve] 24)).cell? ⟨w.heap.size, 0, none⟩ = some vb := alloc_cell w _ _ 0
  have c2 : (w.alloc (.cells #[vb, ve] 24)).cell? ⟨w.heap.size, 1, none⟩ = some ve := alloc_cell w _ _ 1
  have hck := fun w1 (he : Ext w w1) => ref_set_check _ s w1 (HV.out.ext he)
  have hsz := fun (ho : Vec.Ok s.base) w1 (he : Ext w w1) => ref_vec_size vb s.base w1 (hb.ext he) ho
  obtain ⟨pb, cb, rfl, _⟩ := hb
  obtain ⟨pe, ce, rfl, _⟩ := he
  generalize s.base.length = nb at *
  obtain ⟨ne, hne⟩ : ∃ ne, s.extra.length = ne := ⟨_, rfl⟩
  rw [hne] at hE c1 c2 hck HV hl ⊢
  have HC := Lib.hid hck
  have HS := Lib.hid hsz
  have HNE := Lib.hid hne
  clear hck hsz HV hne
  obtain ⟨q, hq⟩ : ∃ q, DS.check s = q := ⟨_, rfl⟩
  rw [hq] at HC
  by_cases h0 : q = 0
  · subst h0
    have hok := DS.check_ok.1 hq
    have hb := DS.tot_bound hok.vec
    have hv := Lib.hid hok.vec
    have hres : DS.len s = DS.tot s.base + ne := by unfold DS.len DS.size; rw [if_pos hq, HNE.out]
    rw [hres]
    clear hres hok hq
    generalize DS.tot s.base = t at *
    go_enter Try.func16, Try.ntmps16
    go_wp2_with fail
    refine (HC.out _ hE).mono ?_
    rintro e w2 ⟨rfl, g2⟩
    have e1 := cell_ext (g2.cell c1)
    have e2 := cell_ext (g2.cell c2)
    have HS2 := Lib.hid fun (p : ExtOf w2) => HS.out hv.out p.to (hE.trans (g2.trans p.ext))
    clear c1 c2 HS hv HC
    go_wp2
    refine wp_region_quiet_ext (by kernel_rfl) (by kernel_rfl) ?_
    repeat (go_big_quiet_step ((go_at_call 39; exact calls_ext (HS2.out _))))
    refine wpQuiet_nil ?_
    intro w3 g3
    go_wp2
    go_ret
    exact ⟨rfl, hE.trans (g2.trans g3)⟩
  · have hres : DS.len s = 0 := by unfold DS.len; rw [if_neg (by rw [hq]; exact h0)]
    rw [hres]
    have hq0 : ((q : Int) != 0) = true := by rw [bne_iff_ne]; omega
    clear hres h0 hq
    go_enter Try.func16, Try.ntmps16
    go_wp2_with fail
    refine (HC.out _ hE).mono ?_
    rintro e w2 ⟨rfl, g2⟩
    go_wp2
    go_ret
    exact ⟨rfl, hE.trans g2⟩

end Go.Proofs.Ytdgjjlffdfpkcaa
