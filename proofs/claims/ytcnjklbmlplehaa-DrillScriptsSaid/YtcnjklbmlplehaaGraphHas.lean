/- The document's Has of edges. -/
import Derived.Test.YtcnjklbmlplehaaEdgesMem
namespace Go.Proofs.Ytcnjklbmlplehaa
open Go.RowKit

theorem hasE_next (l : List GR.Ed) (d : GR.Ed) (p q : Int) : GR.hasE (l ++ [d]) p q = (GR.hasE l p q || ((d.1 == p) && (d.2 == q)) || ((d.1 == q) && (d.2 == p))) := by
  unfold GR.hasE
  rw [List.any_append, List.any_cons, List.any_nil, Bool.or_false, Bool.or_assoc]
  rfl
theorem hasE_mem {l : List GR.Ed} {d : GR.Ed} {p q : Int} (h : d ∈ l) (hd : (((d.1 == p) && (d.2 == q)) || ((d.1 == q) && (d.2 == p))) = true) : GR.hasE l p q = true := by
  unfold GR.hasE
  rw [List.any_eq_true]
  exact ⟨d, h, hd⟩

set_option maxRecDepth 100000 in
set_option maxHeartbeats 2000000 in
theorem ref_has_some (b off n c : Nat) (l : List GR.Ed) (p q : Int) (w : World) (hn : l.length = n) (hm : n ≤ 70368744177664) (hl : EdsAt w b off l) :
    Calls Try.prog 16 #[.slice (some ⟨b, off, none⟩) n c, .int .i64 p, .int .i64 q] w fun e w' => e = .returned (.bool (GR.hasE l p q)) ∧ Ext w w' := by
  obtain ⟨r, hr⟩ : ∃ r, GR.hasE l p q = r := ⟨_, rfl⟩
  rw [hr]
  have HL := Lib.hid hl
  have HN := Lib.hid hn
  have HR := Lib.hid hr
  clear hl hn hr
  go_enter Try.func16, Try.ntmps16
  go_wp2
  go_loopw [7] (fun i wr => ∃ (k : Nat), k ≤ n ∧ i = .int .i64 k ∧ GR.hasE (l.take k) p q = false ∧ Ext w wr) (fun i _ => n - (intOf i).toNat)
  case atStart => exact ⟨0, by omega, rfl, rfl, Ext.refl _⟩
  case round =>
    obtain ⟨k, hk, rfl, hs, hx⟩ := hrel
    by_cases hlt : k < n
    · have hkl : k < l.length := by rw [HN.out]; exact hlt
      have a1 := hx.cell (HL.out k hkl).1
      have a2 := hx.cell (HL.out k hkl).2
      have hnx := take_next l k hkl
      have hsn := hasE_next (l.take k) l[k] p q
      rw [← hnx, hs] at hsn
      have hmem : (((l[k].1 == p) && (l[k].2 == q)) || ((l[k].1 == q) && (l[k].2 == p))) = true → GR.hasE l p q = true := hasE_mem (List.getElem_mem hkl)
      generalize l[k] = d at *
      obtain ⟨b1, h1⟩ : ∃ b, (d.1 == p) = b := ⟨_, rfl⟩
      obtain ⟨b2, h2⟩ : ∃ b, (d.2 == q) = b := ⟨_, rfl⟩
      obtain ⟨b3, h3⟩ : ∃ b, (d.1 == q) = b := ⟨_, rfl⟩
      obtain ⟨b4, h4⟩ : ∃ b, (d.2 == p) = b := ⟨_, rfl⟩
      rw [h1, h2, h3, h4] at hsn hmem
      rw [HR.out] at hmem
      have HSN := Lib.hid hsn
      have HMEM := Lib.hid hmem
      clear hsn hmem hs hnx
      cases b1 <;> cases b2 <;> cases b3 <;> cases b4
      all_goals
        go_wp2
        first
          | (go_roundw
             case rel => exact ⟨k + 1, by omega, by go_num, HSN.out, hx⟩
             case measure => simp [intOf]; omega)
          | (go_ret
             exact ⟨by rw [HMEM.out rfl]; rfl, hx⟩)
    · obtain rfl : k = n := by omega
      rw [List.take_of_length_le (by rw [HN.out]; omega), HR.out] at hs
      subst hs
      go_wp2
      go_ret
      exact ⟨rfl, hx⟩

set_option maxRecDepth 100000 in
theorem ref_has_nil (b : Option Addr) (c : Nat) (p q : Int) (w : World) :
    Calls Try.prog 16 #[.slice b 0 c, .int .i64 p, .int .i64 q] w fun e w' => e = .returned (.bool false) ∧ Ext w w' := by
  go_enter Try.func16, Try.ntmps16
  go_wp2
  refine wp_loop_rounds 1 ?_
  rw [rounds_succ]
  go_wp2
  go_ret
  exact ⟨rfl, Ext.refl _⟩

theorem ref_has (v : Value) (l : List GR.Ed) (p q : Int) (w : World) (h : EdsV w v l) :
    Calls Try.prog 16 #[v, .int .i64 p, .int .i64 q] w fun e w' => e = .returned (.bool (GR.hasE l p q)) ∧ Ext w w' := by
  obtain ⟨a, c, rfl, h2, h0 | ⟨b, o, rfl, hs⟩⟩ := h
  · obtain rfl := List.length_eq_zero_iff.1 h0
    exact ref_has_nil a c p q w
  · exact ref_has_some b o l.length c l p q w rfl h2 hs
end Go.Proofs.Ytcnjklbmlplehaa
