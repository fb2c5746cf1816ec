/- The binary searches: where a dot is, or would be. -/
import Derived.Test.YtdgjjlffdfpkcaaDotsCompare
import Derived.Test.YtdgjjlffdfpkcaaQuietExt
import Derived.Deep.CutRange
namespace Go.Proofs.Ytdgjjlffdfpkcaa
open Go.RowKit

/-- The place ahead of which all are less, and from which on none is. -/
def Lower (f : Dot → Int) (l : List Dot) (i : Nat) : Prop := i ≤ l.length ∧ (∀ m (h : m < l.length), m < i → f l[m] < 0) ∧ ∀ m (h : m < l.length), i ≤ m → 0 ≤ f l[m]
/-- Is it there? -/
def hit (f : Dot → Int) (l : List Dot) (i : Nat) : Bool := match l[i]? with | some d => decide (f d = 0) | none => false

/-- A slice value that reads as a list of dots. -/
def DotsV2 (w : World) (v : Value) (l : List Dot) : Prop := ∃ p c, v = .slice p l.length c ∧ Dots w p l.length l

set_option maxRecDepth 100000 in
theorem find_one (d : Dot) (p : Int) (hp : 0 ≤ p ∧ p < 64) (hd2 : 0 ≤ d.1 ∧ d.1 < 64) (w : World) :
    Calls Try.prog 68 #[dotV d, .int .i64 p] w fun e w' => e = .returned (.int .i64 (d.1 - p)) ∧ Ext w w' := by
  unfold dotV
  go_enter Try.func68, Try.ntmps68
  go_wp2
  go_ret
  exact ⟨rfl, (Ext.refl _).alloc _⟩

set_option maxRecDepth 100000 in
set_option maxHeartbeats 2000000 in
theorem search_peer_some (b off n c : Nat) (l : List Dot) (p : Int) (w : World) (hn : l.length = n) (hm : n ≤ 70368744177664) (hl : DotsAt w b off l) (hcmp : ∀ d ∈ l, ∀ w, Calls Try.prog 68 #[dotV d, .int .i64 p] w fun e w' => e = .returned (.int .i64 (d.1 - p)) ∧ Ext w w') (hmono : ∀ i j (hi : i < l.length) (hj : j < l.length), i ≤ j → (l[j].1 - p) < 0 → (l[i].1 - p) < 0) :
    Calls Try.prog 67 #[.slice (some ⟨b, off, none⟩) n c, .int .i64 p, .func (.func 68) #[] #[]] w fun e w' => ∃ i, Lower (fun d => (d.1 - p)) l i ∧ e = .returned (.tuple #[.int .i64 i, .bool (hit (fun d => (d.1 - p)) l i)]) ∧ Ext w w' := by
  have HL : Hid (DotsAt w b off l) := hl
  have HN := Lib.hid hn
  have HM := Lib.hid hmono
  have HCMP := Lib.hid hcmp
  clear hl hn hmono hcmp
  go_enter Try.func67, Try.ntmps67
  go_wp2
  go_loopw [9, 10] (fun x y wr => ∃ (i j : Nat), i ≤ j ∧ j ≤ n ∧ x = .int .i64 i ∧ y = .int .i64 j ∧ (∀ m (h : m < l.length), m < i → (l[m].1 - p) < 0) ∧ (∀ m (h : m < l.length), j ≤ m → 0 ≤ (l[m].1 - p)) ∧ Ext w wr) (fun x y _ => (intOf y).toNat - (intOf x).toNat)
  case atStart => exact ⟨0, n, by omega, by omega, rfl, rfl, fun m _ h => by omega, fun m h h2 => by rw [HN.out] at h; omega, Ext.refl _⟩
  case round =>
    obtain ⟨i, j, hij, hjn, rfl, rfl, h1, h2, he⟩ := hrel
    have H1 := Lib.hid h1
    have H2 := Lib.hid h2
    clear h1 h2
    by_cases hlt : i < j
    · obtain ⟨k, hk⟩ : ∃ k, (i + j) / 2 = k := ⟨_, rfl⟩
      have hk2 : ((i : Int) + (j : Int)) / 2 = (k : Int) := by omega
      have hki : i ≤ k ∧ k < j := by omega
      have hkl : k < l.length := by rw [HN.out]; omega
      have a1 := he.cell (HL.out k hkl).1
      have a2 := he.cell (HL.out k hkl).2
      have hlo := fun m (h : m < l.length) (hle : m ≤ k) => HM.out m k h hkl hle
      have hhi := fun m (h : m < l.length) (hle : k ≤ m) => HM.out k m hkl h hle
      have hcd := HCMP.out l[k] (List.getElem_mem _)
      generalize l[k] = d at *
      have HLO := Lib.hid hlo
      have HHI := Lib.hid hhi
      have HCD := Lib.hid hcd
      clear hlo hhi hcd hk
      by_cases hc : (d.1 - p) < 0
      · have d1 : decide ((d.1 - p) < 0) = true := decide_eq_true hc
        have HLESS := Lib.hid hc
        clear hc
        go_wp2_with fail
        refine (HCD.out _).mono ?_
        rintro e w2 ⟨rfl, g2⟩
        go_wp2
        go_roundw
        case rel => exact ⟨k + 1, j, by omega, hjn, by go_num, rfl, fun m h h2 => HLO.out m h (by omega) HLESS.out, H2.out, he.trans g2⟩
        case measure => simp [intOf]; omega
      · have d1 : decide ((d.1 - p) < 0) = false := decide_eq_false hc
        have HLESS := Lib.hid hc
        clear hc
        go_wp2_with fail
        refine (HCD.out _).mono ?_
        rintro e w2 ⟨rfl, g2⟩
        go_wp2
        go_roundw
        case rel => exact ⟨i, k, by omega, by omega, rfl, rfl, H1.out, fun m h h2 => by have := HLESS.out; have h3 := HHI.out m h h2; omega, he.trans g2⟩
        case measure => simp [intOf]; omega
    · obtain rfl : i = j := by omega
      by_cases hin : i < n
      · have hil : i < l.length := by rw [HN.out]; exact hin
        have a1 := he.cell (HL.out i hil).1
        have a2 := he.cell (HL.out i hil).2
        have hcd := HCMP.out l[i] (List.getElem_mem _)
        have hh : hit (fun d => (d.1 - p)) l i = decide ((l[i].1 - p) = 0) := by unfold hit; rw [List.getElem?_eq_getElem hil]
        generalize l[i] = d at *
        have HCD := Lib.hid hcd
        have HH := Lib.hid hh
        clear hcd hh
        by_cases hc : (d.1 - p) = 0
        · have d1 : ((d.1 - p) == 0) = true := by rw [beq_iff_eq]; exact hc
          have HZ := Lib.hid hc
          clear hc
          go_wp2_with fail
          refine (HCD.out _).mono ?_
          rintro e w2 ⟨rfl, g2⟩
          go_wp2
          go_ret2
          exact ⟨i, ⟨by omega, H1.out, H2.out⟩, by rw [HH.out, decide_eq_true HZ.out]; rfl, he.trans g2⟩
        · have d1 : ((d.1 - p) == 0) = false := by rw [beq_eq_false_iff_ne]; exact hc
          have HZ := Lib.hid hc
          clear hc
          go_wp2_with fail
          refine (HCD.out _).mono ?_
          rintro e w2 ⟨rfl, g2⟩
          go_wp2
          go_ret2
          exact ⟨i, ⟨by omega, H1.out, H2.out⟩, by rw [HH.out, decide_eq_false HZ.out]; rfl, he.trans g2⟩
      · have hh : hit (fun d => (d.1 - p)) l i = false := by unfold hit; rw [List.getElem?_eq_none (by rw [HN.out]; omega)]
        have HH := Lib.hid hh
        clear hh
        go_wp2
        go_ret2
        exact ⟨i, ⟨by rw [HN.out]; omega, H1.out, H2.out⟩, by rw [HH.out]; rfl, he⟩

set_option maxRecDepth 100000 in
theorem search_peer_nil (q : Option Addr) (c : Nat) (p : Int) (w : World) :
    Calls Try.prog 67 #[.slice q 0 c, .int .i64 p, .func (.func 68) #[] #[]] w fun e w' => e = .returned (.tuple #[.int .i64 0, .bool false]) ∧ Ext w w' := by
  go_enter Try.func67, Try.ntmps67
  go_wp2
  refine wp_loop_rounds 1 ?_
  rw [rounds_succ]
  go_wp2
  go_ret2
  exact ⟨rfl, Ext.refl _⟩

theorem search_peer (v : Value) (l : List Dot) (p : Int) (w : World) (h : DotsV2 w v l) (hcmp : ∀ d ∈ l, ∀ w, Calls Try.prog 68 #[dotV d, .int .i64 p] w fun e w' => e = .returned (.int .i64 (d.1 - p)) ∧ Ext w w') (hmono : ∀ i j (hi : i < l.length) (hj : j < l.length), i ≤ j → (l[j].1 - p) < 0 → (l[i].1 - p) < 0) :
    Calls Try.prog 67 #[v, .int .i64 p, .func (.func 68) #[] #[]] w fun e w' => ∃ i, Lower (fun d => (d.1 - p)) l i ∧ e = .returned (.tuple #[.int .i64 i, .bool (hit (fun d => (d.1 - p)) l i)]) ∧ Ext w w' := by
  obtain ⟨q, c, rfl, _, h2, _, h4 | ⟨b, off, rfl, hs⟩⟩ := h
  · obtain rfl := List.length_eq_zero_iff.1 h4
    refine (search_peer_nil q c p w).mono fun e w' h => ⟨0, ⟨Nat.le_refl _, fun m h => by simp at h, fun m h => by simp at h⟩, h.1, h.2⟩
  · exact search_peer_some b off _ c l p w rfl h2 hs hcmp hmono

set_option maxRecDepth 100000 in
set_option maxHeartbeats 2000000 in
theorem search_dot_some (b off n c : Nat) (l : List Dot) (t : Dot) (w : World) (hn : l.length = n) (hm : n ≤ 70368744177664) (hl : DotsAt w b off l) (hcmp : ∀ d ∈ l, ∀ w, Calls Try.prog 28 #[dotV d, dotV t] w fun e w' => e = .returned (.int .i64 (cmpD d t)) ∧ Ext w w') (hmono : ∀ i j (hi : i < l.length) (hj : j < l.length), i ≤ j → (cmpD l[j] t) < 0 → (cmpD l[i] t) < 0) :
    Calls Try.prog 53 #[.slice (some ⟨b, off, none⟩) n c, dotV t, .func (.func 28) #[] #[]] w fun e w' => ∃ i, Lower (fun d => (cmpD d t)) l i ∧ e = .returned (.tuple #[.int .i64 i, .bool (hit (fun d => (cmpD d t)) l i)]) ∧ Ext w w' := by
  have HL : Hid (DotsAt w b off l) := hl
  have HN := Lib.hid hn
  have HM := Lib.hid hmono
  have HCMP := Lib.hid hcmp
  clear hl hn hmono hcmp
  unfold dotV
  go_enter Try.func53, Try.ntmps53
  have hE : Ext w (w.alloc (.cells #[.int .i64 t.1, .int .i64 t.2] 26)) := (Ext.refl _).alloc _
  have t1 : (w.alloc (.cells #[.int .i64 t.1, .int .i64 t.2] 26)).cell? ⟨w.heap.size, 0, none⟩ = some (.int .i64 t.1) := alloc_cell w _ _ 0
  have t2 : (w.alloc (.cells #[.int .i64 t.1, .int .i64 t.2] 26)).cell? ⟨w.heap.size, 1, none⟩ = some (.int .i64 t.2) := alloc_cell w _ _ 1
  go_wp2
  generalize hw1 : (w.alloc (.cells #[.int .i64 t.1, .int .i64 t.2] 26)) = w1 at *
  clear hw1
  go_loopw [9, 10] (fun x y wr => ∃ (i j : Nat), i ≤ j ∧ j ≤ n ∧ x = .int .i64 i ∧ y = .int .i64 j ∧ (∀ m (h : m < l.length), m < i → (cmpD l[m] t) < 0) ∧ (∀ m (h : m < l.length), j ≤ m → 0 ≤ (cmpD l[m] t)) ∧ Ext w1 wr) (fun x y _ => (intOf y).toNat - (intOf x).toNat)
  case atStart => exact ⟨0, n, by omega, by omega, rfl, rfl, fun m _ h => by omega, fun m h h2 => by rw [HN.out] at h; omega, Ext.refl _⟩
  case round =>
    obtain ⟨i, j, hij, hjn, rfl, rfl, h1, h2, he⟩ := hrel
    have H1 := Lib.hid h1
    have H2 := Lib.hid h2
    clear h1 h2
    by_cases hlt : i < j
    · obtain ⟨k, hk⟩ : ∃ k, (i + j) / 2 = k := ⟨_, rfl⟩
      have hk2 : ((i : Int) + (j : Int)) / 2 = (k : Int) := by omega
      have hki : i ≤ k ∧ k < j := by omega
      have hkn : k < n := by omega
      have hkl : k < l.length := by rw [HN.out]; omega
      have a1 := cell_ext (he.cell (hE.cell (HL.out k hkl).1))
      have a2 := cell_ext (he.cell (hE.cell (HL.out k hkl).2))
      have a3 := cell_ext (he.cell t1)
      have a4 := cell_ext (he.cell t2)
      have hlo := fun m (h : m < l.length) (hle : m ≤ k) => HM.out m k h hkl hle
      have hhi := fun m (h : m < l.length) (hle : k ≤ m) => HM.out k m hkl h hle
      have hcd := HCMP.out l[k] (List.getElem_mem _)
      generalize l[k] = d at *
      have HLO := Lib.hid hlo
      have HHI := Lib.hid hhi
      have HCD := Lib.hid hcd
      clear hlo hhi hcd hk
      by_cases hc : (cmpD d t) < 0
      · have d1 : decide ((cmpD d t) < 0) = true := decide_eq_true hc
        have HLESS := Lib.hid hc
        clear hc
        go_wp2
        refine wp_region_quiet_ext (by kernel_rfl) (by kernel_rfl) ?_
        repeat (go_big_quiet_step ((go_at_call 28; exact calls_ext (HCD.out _))))
        refine wpQuiet_nil ?_
        intro w2 g2
        go_wp2
        go_roundw
        case rel => exact ⟨k + 1, j, by omega, hjn, by go_num, rfl, fun m h h2 => HLO.out m h (by omega) HLESS.out, H2.out, he.trans g2⟩
        case measure => simp [intOf]; omega
      · have d1 : decide ((cmpD d t) < 0) = false := decide_eq_false hc
        have HLESS := Lib.hid hc
        clear hc
        go_wp2
        refine wp_region_quiet_ext (by kernel_rfl) (by kernel_rfl) ?_
        repeat (go_big_quiet_step ((go_at_call 28; exact calls_ext (HCD.out _))))
        refine wpQuiet_nil ?_
        intro w2 g2
        go_wp2
        go_roundw
        case rel => exact ⟨i, k, by omega, by omega, rfl, rfl, H1.out, fun m h h2 => by have := HLESS.out; have h3 := HHI.out m h h2; omega, he.trans g2⟩
        case measure => simp [intOf]; omega
    · obtain rfl : i = j := by omega
      by_cases hin : i < n
      · have hil : i < l.length := by rw [HN.out]; exact hin
        have a1 := cell_ext (he.cell (hE.cell (HL.out i hil).1))
        have a2 := cell_ext (he.cell (hE.cell (HL.out i hil).2))
        have a3 := cell_ext (he.cell t1)
        have a4 := cell_ext (he.cell t2)
        have hcd := HCMP.out l[i] (List.getElem_mem _)
        have hh : hit (fun d => (cmpD d t)) l i = decide ((cmpD l[i] t) = 0) := by unfold hit; rw [List.getElem?_eq_getElem hil]
        generalize l[i] = d at *
        have HCD := Lib.hid hcd
        have HH := Lib.hid hh
        clear hcd hh
        by_cases hc : (cmpD d t) = 0
        · have d1 : ((cmpD d t) == 0) = true := by rw [beq_iff_eq]; exact hc
          have HZ := Lib.hid hc
          clear hc
          go_wp2
          refine wp_region_quiet_ext (by kernel_rfl) (by kernel_rfl) ?_
          repeat (go_big_quiet_step ((go_at_call 28; exact calls_ext (HCD.out _))))
          refine wpQuiet_nil ?_
          intro w2 g2
          go_wp2
          go_ret2
          exact ⟨i, ⟨by omega, H1.out, H2.out⟩, by rw [HH.out, decide_eq_true HZ.out]; rfl, hE.trans (he.trans g2)⟩
        · have d1 : ((cmpD d t) == 0) = false := by rw [beq_eq_false_iff_ne]; exact hc
          have HZ := Lib.hid hc
          clear hc
          go_wp2
          refine wp_region_quiet_ext (by kernel_rfl) (by kernel_rfl) ?_
          repeat (go_big_quiet_step ((go_at_call 28; exact calls_ext (HCD.out _))))
          refine wpQuiet_nil ?_
          intro w2 g2
          go_wp2
          go_ret2
          exact ⟨i, ⟨by omega, H1.out, H2.out⟩, by rw [HH.out, decide_eq_false HZ.out]; rfl, hE.trans (he.trans g2)⟩
      · have hh : hit (fun d => (cmpD d t)) l i = false := by unfold hit; rw [List.getElem?_eq_none (by rw [HN.out]; omega)]
        have HH := Lib.hid hh
        clear hh
        go_wp2
        refine wp_region_quiet_ext (by kernel_rfl) (by kernel_rfl) ?_
        repeat (go_big_quiet_step (fail))
        refine wpQuiet_nil ?_
        intro w2 g2
        go_wp2
        go_ret2
        exact ⟨i, ⟨by rw [HN.out]; omega, H1.out, H2.out⟩, by rw [HH.out]; rfl, hE.trans (he.trans g2)⟩

set_option maxRecDepth 100000 in
theorem search_dot_nil (q : Option Addr) (c : Nat) (t : Dot) (w : World) :
    Calls Try.prog 53 #[.slice q 0 c, dotV t, .func (.func 28) #[] #[]] w fun e w' => e = .returned (.tuple #[.int .i64 0, .bool false]) ∧ Ext w w' := by
  unfold dotV
  go_enter Try.func53, Try.ntmps53
  go_wp2
  refine wp_loop_rounds 1 ?_
  rw [rounds_succ]
  go_wp2
  refine wp_region_quiet_ext (by kernel_rfl) (by kernel_rfl) ?_
  repeat (go_big_quiet_step (fail))
  refine wpQuiet_nil ?_
  intro w2 g2
  go_wp2
  go_ret2
  exact ⟨rfl, ((Ext.refl _).alloc _).trans g2⟩

theorem search_dot (v : Value) (l : List Dot) (t : Dot) (w : World) (h : DotsV2 w v l) (hcmp : ∀ d ∈ l, ∀ w, Calls Try.prog 28 #[dotV d, dotV t] w fun e w' => e = .returned (.int .i64 (cmpD d t)) ∧ Ext w w') (hmono : ∀ i j (hi : i < l.length) (hj : j < l.length), i ≤ j → (cmpD l[j] t) < 0 → (cmpD l[i] t) < 0) :
    Calls Try.prog 53 #[v, dotV t, .func (.func 28) #[] #[]] w fun e w' => ∃ i, Lower (fun d => (cmpD d t)) l i ∧ e = .returned (.tuple #[.int .i64 i, .bool (hit (fun d => (cmpD d t)) l i)]) ∧ Ext w w' := by
  obtain ⟨q, c, rfl, _, h2, _, h4 | ⟨b, off, rfl, hs⟩⟩ := h
  · obtain rfl := List.length_eq_zero_iff.1 h4
    refine (search_dot_nil q c t w).mono fun e w' h => ⟨0, ⟨Nat.le_refl _, fun m h => by simp at h, fun m h => by simp at h⟩, h.1, h.2⟩
  · exact search_dot_some b off _ c l t w rfl h2 hs hcmp hmono

end Go.Proofs.Ytdgjjlffdfpkcaa
