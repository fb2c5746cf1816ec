/- What Edges of a graph answer. -/
import Derived.Test.YtcckdogcjjimoaaGraphNear
namespace Go.Proofs.Ytcckdogcjjimoaa
open Go.RowKit

theorem toEd_take (l : List GR.Lk) (k : Nat) (h : k < l.length) : GR.toEd (l.take (k + 1)) = GR.toEd (l.take k) ++ [((l[k].1 : Int), (l[k].2 : Int))] := by
  rw [take_next l k h, GR.toEd_app]; rfl

set_option maxRecDepth 100000 in
set_option maxHeartbeats 2000000 in
theorem graph_edges (B n c : Nat) (adj : Nat → Nat → Bool) (p : Option Addr) (w : World) (h : GraphAt w B n adj p c) :
    Calls Try.prog 19 #[.pointer (some ⟨B, 0, none⟩)] w fun e w' => ∃ v, e = .returned v ∧ EdR w w' 54 v (GR.toEd (GR.links n adj)) := by
  obtain ⟨i0, hi, hz0, hz1, hz2⟩ := info_parts info_edge
  have Hi := Lib.hid hi
  have c1 := h.two.c1
  have hfew := links_few (adj := adj) h.le
  have HSM := Lib.hid (links_sm (adj := adj) h.le)
  have HLK := Lib.hid h.lks
  generalize GR.links n adj = L at *
  obtain ⟨m, hm⟩ : ∃ m, L.length = m := ⟨_, rfl⟩
  rw [hm] at c1 hfew
  have HM := Lib.hid hm
  clear hi h hm
  go_enter Try.func19, Try.ntmps19
  go_wp2
  go_loopw [3, 14] (fun ov i wr => ∃ (k : Nat) (out : List GR.Ed), k ≤ m ∧ i = .int .i64 k ∧ EdR w wr 54 ov out ∧ Hid (out = GR.toEd (L.take k))) (fun _ i _ => m - (intOf i).toNat)
  case atStart => exact ⟨0, [], by omega, rfl, ⟨World.ownsRow_nil _ _ _ _, Ext.refl _⟩, Lib.hid rfl⟩
  case round =>
    obtain ⟨k, out, hk, rfl, hI, HO⟩ := hrel
    obtain ⟨p1, q1, rfl⟩ := row_slice hI.row
    have hlen : out.length ≤ k := by rw [HO.out, GR.toEd_length, List.length_take]; omega
    by_cases hlt : k < m
    · have hkl : k < L.length := by rw [HM.out]; exact hlt
      obtain ⟨b, o, rfl, hat⟩ : ∃ b o, p = some ⟨b, o, none⟩ ∧ LksAt w b o L := by
        rcases HLK.out with h0 | h0
        · omega
        · exact h0
      have a1 := hI.ext.cell (hat k hkl)
      have hsm := HSM.out _ (List.getElem_mem hkl)
      have hnx := toEd_take L k hkl
      rw [← HO.out] at hnx
      generalize L[k] = z at *
      have HE := Lib.hid (fun W => graph_edge z hsm.1 hsm.2 W)
      have HNX := Lib.hid hnx
      have HI := Lib.hid hI
      clear hnx hat hsm hI
      go_wp2_with fail
      refine (HE.out _).mono ?_
      rintro e w1 ⟨rfl, g1⟩
      have hrow := (row_to HI.out.row g1).alloc (.cells #[.int .i64 z.1, .int .i64 z.2] 54)
      have HROW := Lib.hid hrow
      have hs1 : w.heap.size ≤ w1.heap.size := (HI.out.ext.trans g1).size
      have hs2 : w.heap.size ≤ (w1.alloc (.cells #[.int .i64 z.1, .int .i64 z.2] 54)).heap.size := by rw [World.size_alloc]; omega
      have hb1 : out.length + 1 ≤ maxLen := by unfold maxLen; omega
      have hb2 : (out.length + 1) * 16 ≤ 140737488355328 := by omega
      have hnew := cell_two_new w1 (.int .i64 z.1) (.int .i64 z.2) 54
      have HNEW := Lib.hid hnew
      clear hrow hnew
      go_wp2_with (at_builtin; refine wpList_append_own_at _ rfl _ _ 30 rfl w.heap.size 54 i0 (.agg #[.int .i64 0, .int .i64 0]) 2 16 Try.underlying30 Hi.out hz0 hz1 hz2 rfl (by decide) _ _ _ rfl HROW.out ⟨w1.heap.size, 0, none⟩ 1 1 [.int .i64 z.1, .int .i64 z.2] rfl rfl HNEW.out (by simp [Value.oneCell']) hb1 hb2 hs2 ?_; intro v' w6 hown' hgrow _ hat)
      go_roundw
      case rel =>
        refine ⟨k + 1, out ++ [((z.1 : Int), (z.2 : Int))], by omega, by go_num, ⟨?_, ext_grownV ((HI.out.ext.trans g1).alloc _) HROW.out hgrow (Nat.le_refl _)⟩, Lib.hid HNX.out.symm⟩
        rw [edCells_app, List.length_append]
        exact hown'
      case measure => simp [intOf]; omega
    · obtain rfl : k = m := by omega
      have hfin : EdR w wr 54 (.slice p1 out.length q1) (GR.toEd L) := by
        have e := HO.out
        rw [List.take_of_length_le (by rw [HM.out]; omega)] at e
        rw [← e]; exact hI
      have HF := Lib.hid hfin
      clear hI hfin
      go_wp2
      go_ret
      exact ⟨_, rfl, HF.out⟩

end Go.Proofs.Ytcckdogcjjimoaa
