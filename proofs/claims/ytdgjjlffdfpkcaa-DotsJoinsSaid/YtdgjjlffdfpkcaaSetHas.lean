/- What find, Has and Len of a set answer, and how many dots a vector has. -/
import Derived.Test.YtdgjjlffdfpkcaaSetCheck
namespace Go.Proofs.Ytdgjjlffdfpkcaa
open Go.RowKit

set_option maxRecDepth 100000 in
theorem set_find (v : Value) (s : DS.S) (d : Dot) (w : World) (h : SetV w v s) (hs : s.extra.Pairwise DS.lt) :
    Calls Try.prog 34 #[v, dotV d] w fun e w' => ∃ i, Lower (fun x => cmpD x d) s.extra i ∧ e = .returned (.tuple #[.int .i64 i, .bool (hit (fun x => cmpD x d) s.extra i)]) ∧ Ext w w' := by
  obtain ⟨vb, ve, rfl, hb, he⟩ := h
  unfold dotV
  obtain ⟨d1, d2⟩ := d
  have hmono : ∀ i j (hi : i < s.extra.length) (hj : j < s.extra.length), i ≤ j → cmpD s.extra[j] (d1, d2) < 0 → cmpD s.extra[i] (d1, d2) < 0 := fun i j hi hj hij hlt => by
    rw [DS.cmpD_lt] at *
    rcases Nat.lt_or_ge i j with h' | h'
    · exact DS.lt_trans (List.pairwise_iff_getElem.1 hs i j hi hj h') hlt
    · obtain rfl : i = j := by omega
      exact hlt
  have hE : Ext w ((w.alloc (.cells #[vb, ve] 29)).alloc (.cells #[.int .i64 d1, .int .i64 d2] 26)) := ((Ext.refl w).alloc _).alloc _
  have hw0 : (w.alloc (.cells #[vb, ve] 29)).heap.size = w.heap.size + 1 := World.size_alloc _ _
  have hcl := search_dot ve s.extra (d1, d2) _ (he.ext hE).two (fun x _ w => dots_compare x (d1, d2) w) hmono
  obtain ⟨pb, cb, rfl, _⟩ := hb
  obtain ⟨pe, ce, rfl, _⟩ := he
  have HC := Lib.hid hcl
  clear hcl hmono hs
  generalize s.extra = l at *
  generalize s.base.length = nb at *
  go_enter Try.func34, Try.ntmps34
  go_wp2_with fail
  refine HC.out.mono ?_
  rintro e w2 ⟨i, hlo, rfl, g2⟩
  go_wp2
  go_ret2
  exact ⟨i, hlo, rfl, hE.trans g2⟩

/-- Whether a dot is among further dots. -/
theorem hit_mem {l : List Dot} {d : Dot} {i : Nat} (hs : l.Pairwise DS.lt) (h : Lower (fun x => cmpD x d) l i) : hit (fun x => cmpD x d) l i = decide (d ∈ l) := by
  obtain ⟨h1, h2, h3⟩ := h
  simp only at h2 h3
  have hno : i < l.length → ∀ hi : i < l.length, (cmpD l[i] d = 0 ↔ d ∈ l) := fun _ hi => by
    rw [DS.cmpD_zero]
    constructor
    · rintro rfl; exact List.getElem_mem _
    · intro hm
      obtain ⟨m, hml, rfl⟩ := List.getElem_of_mem hm
      rcases Nat.lt_trichotomy m i with hmi | hmi | hmi
      · have := h2 m hml hmi
        rw [DS.cmpD_lt] at this
        exact absurd this (DS.lt_irrefl _)
      · subst hmi; rfl
      · have k1 := List.pairwise_iff_getElem.1 hs i m hi hml hmi
        have k2 := h3 i hi (Nat.le_refl _)
        rw [← DS.cmpD_lt] at k1
        omega
  by_cases hi : i < l.length
  · unfold hit
    rw [List.getElem?_eq_getElem hi]
    have := hno hi hi
    simp only [this]
  · unfold hit
    rw [List.getElem?_eq_none (by omega)]
    symm
    apply decide_eq_false
    intro hm
    obtain ⟨m, hml, rfl⟩ := List.getElem_of_mem hm
    have := h2 m hml (by omega)
    rw [DS.cmpD_lt] at this
    exact DS.lt_irrefl _ this

set_option maxRecDepth 100000 in
set_option maxHeartbeats 1000000 in
theorem set_has (v : Value) (s : DS.S) (d : Dot) (w : World) (h : SetV w v s) :
    Calls Try.prog 13 #[v, dotV d] w fun e w' => e = .returned (.bool (DS.has s d)) ∧ Ext w w' := by
  have HV := Lib.hid h
  obtain ⟨vb, ve, rfl, hb, he⟩ := h
  unfold dotV
  obtain ⟨d1, d2⟩ := d
  have hE : Ext w ((w.alloc (.cells #[vb, ve] 29)).alloc (.cells #[.int .i64 d1, .int .i64 d2] 26)) := ((Ext.refl w).alloc _).alloc _
  have hw0 : (w.alloc (.cells #[vb, ve] 29)).heap.size = w.heap.size + 1 := World.size_alloc _ _
  have c1 : ((w.alloc (.cells #[vb, ve] 29)).alloc (.cells #[.int .i64 d1, .int .i64 d2] 26)).cell? ⟨w.heap.size, 0, none⟩ = some vb := ((Ext.refl _).alloc _).cell (alloc_cell w _ _ 0)
  have c2 : ((w.alloc (.cells #[vb, ve] 29)).alloc (.cells #[.int .i64 d1, .int .i64 d2] 26)).cell? ⟨w.heap.size, 1, none⟩ = some ve := ((Ext.refl _).alloc _).cell (alloc_cell w _ _ 1)
  have c3 : ((w.alloc (.cells #[vb, ve] 29)).alloc (.cells #[.int .i64 d1, .int .i64 d2] 26)).cell? ⟨w.heap.size + 1, 0, none⟩ = some (.int .i64 d1) := by rw [← hw0]; exact alloc_cell _ _ _ 0
  have c4 : ((w.alloc (.cells #[vb, ve] 29)).alloc (.cells #[.int .i64 d1, .int .i64 d2] 26)).cell? ⟨w.heap.size + 1, 1, none⟩ = some (.int .i64 d2) := by rw [← hw0]; exact alloc_cell _ _ _ 1
  have hck := fun w1 (he : Ext w w1) => set_check _ s w1 (HV.out.ext he)
  have hfi := fun w1 (hs : s.extra.Pairwise DS.lt) (he : Ext w w1) => set_find _ s (d1, d2) w1 (HV.out.ext he) hs
  have hvh := fun w1 (he : Ext w w1) => vec_has vb s.base (d1, d2) w1 (hb.ext he)
  obtain ⟨pb, cb, rfl, _⟩ := hb
  obtain ⟨pe, ce, rfl, _⟩ := he
  generalize s.base.length = nb at *
  generalize s.extra.length = ne at *
  have HC := Lib.hid hck
  have HF := Lib.hid hfi
  have HH := Lib.hid hvh
  clear hck hfi hvh HV hw0
  obtain ⟨q, hq⟩ : ∃ q, DS.check s = q := ⟨_, rfl⟩
  rw [hq] at HC
  by_cases h0 : q = 0
  · subst h0
    have hok := DS.check_ok.1 hq
    have hg : getL s.base d1 = Vec.cnt s.base d1 := if_pos (Vec.check_ok.2 hok.vec)
    have hres : DS.has s (d1, d2) = (decide ((d1, d2) ∈ s.extra) || decide (1 ≤ d2 ∧ d2 ≤ getL s.base d1)) := by
      rw [hg]
      have hh : DS.Has s (d1, d2) ↔ (1 ≤ d2 ∧ d2 ≤ Vec.cnt s.base d1) ∨ (d1, d2) ∈ s.extra := Iff.rfl
      unfold DS.has
      rw [hq]
      by_cases h1 : 1 ≤ d2 ∧ d2 ≤ Vec.cnt s.base d1
      · rw [decide_eq_true (hh.2 (.inl h1)), decide_eq_true h1]; simp
      · by_cases h2 : (d1, d2) ∈ s.extra
        · rw [decide_eq_true (hh.2 (.inr h2)), decide_eq_true h2]; simp
        · rw [decide_eq_false (fun h => (hh.1 h).elim h1 h2), decide_eq_false h1, decide_eq_false h2]; simp
    rw [hres]
    have hso := hok.sorted
    clear hres hg hok hq
    generalize decide (1 ≤ d2 ∧ d2 ≤ getL s.base d1) = r at *
    have HS := Lib.hid hso
    obtain ⟨m, hm⟩ : ∃ m, decide ((d1, d2) ∈ s.extra) = m := ⟨_, rfl⟩
    rw [hm]
    have HM := Lib.hid hm
    clear hso hm
    go_enter Try.func13, Try.ntmps13
    go_wp2_with fail
    refine (HC.out _ hE).mono ?_
    rintro e w2 ⟨rfl, g2⟩
    have f1 := g2.cell c1
    have f2 := g2.cell c2
    have f3 := g2.cell c3
    have f4 := g2.cell c4
    go_wp2_with fail
    refine (HF.out _ HS.out (hE.trans g2)).mono ?_
    rintro e w3 ⟨i, hlo, rfl, g3⟩
    rw [hit_mem HS.out hlo, HM.out]
    clear hlo HS HM
    have k1 := g3.cell f1
    have k3 := g3.cell f3
    have k4 := g3.cell f4
    cases m with
    | true =>
      go_wp2
      go_ret
      exact ⟨rfl, hE.trans (g2.trans g3)⟩
    | false =>
      go_wp2_with fail
      refine (HH.out _ (hE.trans (g2.trans g3))).mono ?_
      rintro e w4 ⟨rfl, g4⟩
      go_wp2
      go_ret
      exact ⟨rfl, hE.trans (g2.trans (g3.trans g4))⟩
  · have hres : DS.has s (d1, d2) = false := by unfold DS.has; rw [hq, decide_eq_false h0]; rfl
    rw [hres]
    have hq0 : ((q : Int) != 0) = true := by rw [bne_iff_ne]; omega
    clear hres h0 hq
    go_enter Try.func13, Try.ntmps13
    go_wp2_with fail
    refine (HC.out _ hE).mono ?_
    rintro e w2 ⟨rfl, g2⟩
    go_wp2
    go_ret
    exact ⟨rfl, hE.trans g2⟩

set_option maxRecDepth 100000 in
set_option maxHeartbeats 1000000 in
theorem vec_size_some (b off n c : Nat) (l : List Dot) (w : World) (hn : l.length = n) (hm : n ≤ 70368744177664) (hl : DotsAt w b off l) (hd : Dots w (some ⟨b, off, none⟩) l.length l) (ho : Vec.Ok l) :
    Calls Try.prog 38 #[.slice (some ⟨b, off, none⟩) n c] w fun e w' => e = .returned (.int .i64 (DS.tot l)) ∧ Ext w w' := by
  have hT := rows_one (some ⟨b, off, none⟩) c l w hd
  have hE : Ext w (w.alloc (.cells #[.slice (some ⟨b, off, none⟩) l.length c] 22)) := (Ext.refl _).alloc _
  have hr := vec_right w.heap.size 1 [⟨some ⟨b, off, none⟩, l.length, c, l⟩] _ rfl (by unfold maxLen; omega) hT
  rw [any_one, decide_eq_true (Vec.check_ok.2 ho)] at hr
  rw [hn] at hr hE
  have HR := Lib.hid hr
  have HL : Hid (DotsAt w b off l) := hl
  have HN := Lib.hid hn
  have hbound : ∀ k, 0 ≤ DS.tot (l.take k) ∧ DS.tot (l.take k) ≤ 67108864 := fun k => DS.tot_bound ⟨fun d hd => ho.1 d (List.mem_of_mem_take hd), ho.2.sublist (List.take_sublist _ _)⟩
  have hrange : ∀ k (h : k < l.length), 1 ≤ l[k].2 ∧ l[k].2 ≤ 1048576 := fun k h => (ho.1 _ (List.getElem_mem h)).2.2
  have HRA := Lib.hid hrange
  obtain ⟨r, hr2⟩ : ∃ r, DS.tot l = r := ⟨_, rfl⟩
  rw [hr2]
  have HT := Lib.hid hr2
  clear hr hT hd hl hn ho hr2 hrange
  go_enter Try.func38, Try.ntmps38
  go_wp2_with fail
  refine HR.out.mono ?_
  rintro e w2 ⟨rfl, g2⟩
  have hE2 := hE.trans g2
  clear HR hE g2
  go_wp2
  go_loopw [3, 12] (fun s i wr => ∃ (k : Nat), k ≤ n ∧ i = .int .i64 k ∧ s = .int .i64 (DS.tot (l.take k)) ∧ Ext w2 wr) (fun _ i _ => n - (intOf i).toNat)
  case atStart => exact ⟨0, by omega, rfl, rfl, Ext.refl _⟩
  case round =>
    obtain ⟨k, hk, rfl, rfl, he⟩ := hrel
    by_cases hlt : k < n
    · have hkl : k < l.length := by rw [HN.out]; exact hlt
      have h1 := he.cell (hE2.cell (HL.out k hkl).1)
      have h2 := he.cell (hE2.cell (HL.out k hkl).2)
      have hra := HRA.out k hkl
      have hnx : DS.tot (l.take (k + 1)) = DS.tot (l.take k) + l[k].2 := by rw [take_next l k hkl, DS.tot_app]; simp [DS.tot]
      have hb0 := hbound k
      generalize l[k] = d at *
      generalize DS.tot (l.take k) = s0 at *
      have HNX := Lib.hid hnx
      clear hnx hbound
      go_wp2
      go_roundw
      case rel => exact ⟨k + 1, by omega, by go_num, by rw [HNX.out], he.alloc _⟩
      case measure => simp [intOf]; omega
    · obtain rfl : k = n := by omega
      rw [List.take_of_length_le (by rw [HN.out]; omega), HT.out]
      go_wp2
      go_ret
      exact ⟨rfl, hE2.trans he⟩

set_option maxRecDepth 100000 in
theorem vec_size_nil (q : Option Addr) (c : Nat) (w : World) :
    Calls Try.prog 38 #[.slice q 0 c] w fun e w' => e = .returned (.int .i64 0) ∧ Ext w w' := by
  have hd : Dots w q ([] : List Dot).length [] := ⟨rfl, by simp, by simp, .inl rfl⟩
  have hT := rows_one q c [] w hd
  have hE : Ext w (w.alloc (.cells #[.slice q ([] : List Dot).length c] 22)) := (Ext.refl _).alloc _
  have hr := vec_right w.heap.size 1 [⟨q, ([] : List Dot).length, c, []⟩] _ rfl (by unfold maxLen; omega) hT
  rw [any_one, decide_eq_true (Vec.check_ok.2 Vec.Ok.nil)] at hr
  have HR := Lib.hid hr
  clear hr hT hd
  go_enter Try.func38, Try.ntmps38
  go_wp2_with fail
  refine HR.out.mono ?_
  rintro e w2 ⟨rfl, g2⟩
  go_wp2
  refine wp_loop_rounds 1 ?_
  rw [rounds_succ]
  go_wp2
  go_ret
  exact ⟨rfl, hE.trans g2⟩

theorem vec_size (v : Value) (l : List Dot) (w : World) (h : DotsV w v l) (ho : Vec.Ok l) :
    Calls Try.prog 38 #[v] w fun e w' => e = .returned (.int .i64 (DS.tot l)) ∧ Ext w w' := by
  obtain ⟨q, c, rfl, _, _, hd⟩ := h
  have hd' := hd
  obtain ⟨h1, h2, _, h3 | ⟨b, off, rfl, h4⟩⟩ := hd
  · obtain rfl : l = [] := List.eq_nil_of_length_eq_zero h3
    exact vec_size_nil q c w
  · exact vec_size_some b off _ c l w h1 h2 h4 hd' ho

set_option maxRecDepth 100000 in
theorem set_len (v : Value) (s : DS.S) (w : World) (h : SetV w v s) (hl : s.extra.length ≤ 1000000) :
    Calls Try.prog 15 #[v] w fun e w' => e = .returned (.int .i64 (DS.len s)) ∧ Ext w w' := by
  have HV := Lib.hid h
  obtain ⟨vb, ve, rfl, hb, he⟩ := h
  have hE : Ext w (w.alloc (.cells #[vb, ve] 29)) := (Ext.refl w).alloc _
  have c1 : (w.alloc (.cells #[vb, ve] 29)).cell? ⟨w.heap.size, 0, none⟩ = some vb := alloc_cell w _ _ 0
  have c2 : (w.alloc (.cells #[vb, ve] 29)).cell? ⟨w.heap.size, 1, none⟩ = some ve := alloc_cell w _ _ 1
  have hck := fun w1 (he : Ext w w1) => set_check _ s w1 (HV.out.ext he)
  have hsz := fun (ho : Vec.Ok s.base) w1 (he : Ext w w1) => vec_size vb s.base w1 (hb.ext he) ho
  obtain ⟨pb, cb, rfl, _⟩ := hb
  obtain ⟨pe, ce, rfl, _⟩ := he
  generalize s.base.length = nb at *
  obtain ⟨ne, hne⟩ : ∃ ne, s.extra.length = ne := ⟨_, rfl⟩
  rw [hne] at hE c1 c2 hck HV hl ⊢
  have HC := Lib.hid hck
  have HS := Lib.hid hsz
  have HNE := Lib.hid hne
  clear hck hsz HV hne
  obtain ⟨q, hq⟩ : ∃ q, DS.check s = q := ⟨_, rfl⟩
  rw [hq] at HC
  by_cases h0 : q = 0
  · subst h0
    have hok := DS.check_ok.1 hq
    have hb := DS.tot_bound hok.vec
    have hv := Lib.hid hok.vec
    have hres : DS.len s = DS.tot s.base + ne := by unfold DS.len DS.size; rw [if_pos hq, HNE.out]
    rw [hres]
    clear hres hok hq
    generalize DS.tot s.base = t at *
    go_enter Try.func15, Try.ntmps15
    go_wp2_with fail
    refine (HC.out _ hE).mono ?_
    rintro e w2 ⟨rfl, g2⟩
    have e1 := cell_ext (g2.cell c1)
    have e2 := cell_ext (g2.cell c2)
    have HS2 := Lib.hid fun (p : ExtOf w2) => HS.out hv.out p.to (hE.trans (g2.trans p.ext))
    clear c1 c2 HS hv HC
    go_wp2
    refine wp_region_quiet_ext (by kernel_rfl) (by kernel_rfl) ?_
    repeat (go_big_quiet_step ((go_at_call 38; exact calls_ext (HS2.out _))))
    refine wpQuiet_nil ?_
    intro w3 g3
    go_wp2
    go_ret
    exact ⟨rfl, hE.trans (g2.trans g3)⟩
  · have hres : DS.len s = 0 := by unfold DS.len; rw [if_neg (by rw [hq]; exact h0)]
    rw [hres]
    have hq0 : ((q : Int) != 0) = true := by rw [bne_iff_ne]; omega
    clear hres h0 hq
    go_enter Try.func15, Try.ntmps15
    go_wp2_with fail
    refine (HC.out _ hE).mono ?_
    rintro e w2 ⟨rfl, g2⟩
    go_wp2
    go_ret
    exact ⟨rfl, hE.trans g2⟩

end Go.Proofs.Ytdgjjlffdfpkcaa
