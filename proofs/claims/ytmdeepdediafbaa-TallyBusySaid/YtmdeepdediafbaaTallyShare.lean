/- What Share answers, and the document's Given. -/
import Derived.Test.YtmdeepdediafbaaRefCount
import Derived.Test.YtmdeepdediafbaaDotsSame
namespace Go.Proofs.Ytmdeepdediafbaa
open Go.RowKit

/-- How many hundredths were well. -/
def shareOf (all well : Int) : Int := if all < 1 then 100 else well * 100 / all

set_option maxRecDepth 100000 in
set_option maxHeartbeats 1000000 in
theorem tally_share (x : Nat → Int) (g : Value) (w : World) (h0 : 0 ≤ x 0 ∧ x 0 ≤ 1000000) (h27 : 0 ≤ x 27 ∧ x 27 ≤ 1000000) :
    Calls Try.prog 12 #[.agg (tallyCells x g).toArray] w fun e w' => e = .returned (.int .i64 (shareOf (x 0) (x 27))) ∧ Ext w w' := by
  have c0 : (w.alloc (.cells (tallyCells x g).toArray 28)).cell? ⟨w.heap.size, 0, none⟩ = some (.int .i64 (x 0)) := by
    rw [alloc_cell, List.getElem?_toArray]; exact tallyCells_num x g 0 (by omega)
  have c27 : (w.alloc (.cells (tallyCells x g).toArray 28)).cell? ⟨w.heap.size, 27, none⟩ = some (.int .i64 (x 27)) := by
    rw [alloc_cell, List.getElem?_toArray]; exact tallyCells_num x g 27 (by omega)
  have hE : Ext w (w.alloc (.cells (tallyCells x g).toArray 28)) := (Ext.refl w).alloc _
  unfold shareOf
  generalize x 0 = a at *
  generalize x 27 = b at *
  generalize (tallyCells x g).toArray = C at *
  by_cases h1 : a < 1
  · rw [if_pos h1]
    go_enter Try.func12, Try.ntmps12
    go_wp2
    go_ret
    exact ⟨rfl, hE⟩
  · rw [if_neg h1]
    go_enter Try.func12, Try.ntmps12
    go_wp2
    go_ret
    exact ⟨rfl, hE⟩

set_option maxRecDepth 100000 in
theorem ref_given_nil (p : Option Addr) (c : Nat) (w : World) :
    Calls Try.prog 11 #[.slice p 0 c] w fun e w' => e = .returned (.slice none 0 0) ∧ Ext w w' := by
  go_enter Try.func11, Try.ntmps11
  go_wp2
  refine wp_loop_rounds 1 ?_
  rw [rounds_succ]
  go_wp2
  go_ret
  exact ⟨rfl, Ext.refl _⟩

set_option maxRecDepth 100000 in
set_option maxHeartbeats 4000000 in
theorem ref_given_some (b off n c : Nat) (l : List Ev) (w : World) (hn : l.length = n) (hm : n ≤ 400) (hf : ∀ e ∈ l, e.Fits) (hl : EvsAt w b off l) :
    Calls Try.prog 11 #[.slice (some ⟨b, off, none⟩) n c] w fun e w' => ∃ v, e = .returned v ∧ DotsV w' v (giveAll l) ∧ Ext w w' := by
  have HL := Lib.hid hl
  have HN := Lib.hid hn
  have HF := Lib.hid hf
  clear hl hn hf
  go_enter Try.func11, Try.ntmps11
  go_wp2
  go_loopw [3, 4] (fun v i wr => ∃ (k : Nat), k ≤ n ∧ i = .int .i64 k ∧ DotsV wr v (giveAll (l.take k)) ∧ Ext w wr) (fun _ i _ => n - (intOf i).toNat)
  case atStart => exact ⟨0, by omega, rfl, by rw [List.take_zero]; exact ⟨none, 0, rfl, by simp [giveAll], by unfold maxLen; omega, rfl, by simp [giveAll], by simp [giveAll], .inl rfl⟩, Ext.refl _⟩
  case round =>
    obtain ⟨k, hk, rfl, hv, he⟩ := hrel
    by_cases hlt : k < n
    · have hkl : k < l.length := by rw [HN.out]; exact hlt
      have hr := (HL.out k hkl)
      have hfe := (HF.out l[k] (List.getElem_mem _)).1
      have hgn := giveAll_next l k hkl
      generalize l[k] = e at *
      have h9 := he.cell (hr 9 (.int .i64 e.err) rfl)
      have h10 := he.cell (hr 10 (.int .i64 e.dp) rfl)
      have h11 := he.cell (hr 11 (.int .i64 e.dc) rfl)
      unfold give at hgn
      have HV := Lib.hid hv
      have HFE := Lib.hid hfe
      clear hr hv hfe HL HF
      by_cases e0 : e.err = 0
      · have d0 : (e.err == 0) = true := by rw [beq_iff_eq]; exact e0
        obtain ⟨q, hq⟩ : ∃ q, Vec.dotE (e.dp, e.dc) = q := ⟨_, rfl⟩
        have HQ := Lib.hid hq
        by_cases q0 : q = 0
        · subst q0
          rw [if_pos ⟨e0, hq⟩] at hgn
          have HG := Lib.hid hgn
          clear hgn hq e0
          go_wp2_with fail
          refine (ref_dot_at (e.dp, e.dc) _).mono ?_
          rw [HQ.out]
          rintro r w2 ⟨rfl, g2⟩
          have g10 := g2.cell h10
          have g11 := g2.cell h11
          go_wp2_with fail
          refine (ref_with _ (e.dp, e.dc) _ _ (HV.out.ext g2) HFE.out).mono ?_
          rintro r w3 ⟨v', rfl, hv', g3⟩
          have HV3 := Lib.hid hv'
          clear hv'
          go_wp2
          go_roundw
          case rel => exact ⟨k + 1, by omega, by go_num, by rw [HG.out]; exact HV3.out, he.trans (g2.trans g3)⟩
          case measure => simp [intOf]; omega
        · have d1 : ((q : Int) == 0) = false := by rw [beq_eq_false_iff_ne]; omega
          rw [if_neg fun h => q0 (hq.symm.trans h.2)] at hgn
          have HG := Lib.hid hgn
          clear hgn hq e0
          go_wp2_with fail
          refine (ref_dot_at (e.dp, e.dc) _).mono ?_
          rw [HQ.out]
          rintro r w2 ⟨rfl, g2⟩
          go_wp2
          go_roundw
          case rel => exact ⟨k + 1, by omega, by go_num, by rw [HG.out]; exact HV.out.ext g2, he.trans g2⟩
          case measure => simp [intOf]; omega
      · have d0 : (e.err == 0) = false := by rw [beq_eq_false_iff_ne]; exact e0
        rw [if_neg fun h => e0 h.1] at hgn
        have HG := Lib.hid hgn
        clear hgn
        go_wp2
        go_roundw
        case rel => exact ⟨k + 1, by omega, by go_num, by rw [HG.out]; exact HV.out, he⟩
        case measure => simp [intOf]; omega
    · obtain rfl : k = n := by omega
      rw [List.take_of_length_le (by rw [HN.out]; omega)] at hv
      have HV := Lib.hid hv
      clear hv
      go_wp2
      go_ret
      exact ⟨_, rfl, HV.out, he⟩

/-- What Given answers. -/
theorem ref_given (p : Option Addr) (n c : Nat) (l : List Ev) (w : World) (hm : n ≤ 400) (h : Events w p n l) :
    Calls Try.prog 11 #[.slice p n c] w fun e w' => ∃ v, e = .returned v ∧ DotsV w' v (giveAll l) ∧ Ext w w' := by
  obtain ⟨h1, h2, hf, h3 | ⟨b, off, rfl, h4⟩⟩ := h
  · subst h3
    obtain rfl : l = [] := List.eq_nil_of_length_eq_zero h1
    exact (ref_given_nil p c w).mono fun e w' h => ⟨_, h.1, ⟨none, 0, rfl, by simp [giveAll], by unfold maxLen; omega, rfl, by simp [giveAll], by simp [giveAll], .inl rfl⟩, h.2⟩
  · exact ref_given_some b off n c l w h1 hm hf h4

end Go.Proofs.Ytmdeepdediafbaa
