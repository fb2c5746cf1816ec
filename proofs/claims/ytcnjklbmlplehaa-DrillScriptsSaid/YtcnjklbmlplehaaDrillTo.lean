/- A neighbour that is drawn. -/
import Derived.Test.YtcnjklbmlplehaaDrillPath
import Derived.Test.YtcnjklbmlplehaaGraphNear
namespace Go.Proofs.Ytcnjklbmlplehaa
open Go.RowKit

theorem grown_of_ext {w W : World} (h : Ext w W) (k : Nat) : w.grownBy W (some k) := ⟨h.os, h.tape, h.output, h.size, fun j hj _ => h.block hj⟩
theorem nearZ_nat' (n : Nat) (adj : Nat → Nat → Bool) (h : Nat) : GR.nearZ n adj (h : Int) = GR.near n adj h := by
  unfold GR.nearZ
  rw [if_pos (Int.natCast_nonneg h), Int.toNat_natCast]

namespace DR
/-- Which neighbour. -/
def toOf (L : List Nat) (s : Int) : Nat := L.getD (bel s (L.length : Nat)).toNat 0
theorem toOf_mem {L : List Nat} (h : 0 < L.length) (s : Int) : ∃ h2 : (bel s (L.length : Nat)).toNat < L.length, toOf L s = L[(bel s (L.length : Nat)).toNat] := by
  have hb := bel_bounds s (L.length : Nat) (by omega)
  refine ⟨by omega, ?_⟩
  unfold toOf
  rw [List.getD_eq_getElem?_getD, List.getElem?_eq_getElem (by omega)]
  rfl
end DR

set_option maxRecDepth 100000 in
set_option maxHeartbeats 1000000 in
theorem draw_to_none (D : Nat) (s : Int) (B n c : Nat) (adj : Nat → Nat → Bool) (pt : Option Addr) (p : Nat) (w0 w : World) (hG : GraphAt w0 B n adj pt c) (hx : Ext w0 w) (h : Drawer w D s (.pointer (some ⟨B, 0, none⟩))) (h0 : GR.near n adj p = []) :
    Calls Try.prog 37 #[.pointer (some ⟨D, 0, none⟩), .int .i64 p] w fun e w' => e = .returned (.tuple #[.int .i64 0, .bool false]) ∧ Drawer w' D s (.pointer (some ⟨B, 0, none⟩)) ∧ w.grownBy w' (some D) := by
  have HN := Lib.hid (graph_near B n c adj pt p w (hG.ext hx))
  rw [nearZ_nat', h0] at HN
  have k1 := Two.c1 h
  have HH := Lib.hid h
  clear h hx hG
  go_enter Try.func37, Try.ntmps37
  go_wp2_with fail
  refine HN.out.mono ?_
  rintro e w1 ⟨v, rfl, hv, g1, _⟩
  obtain ⟨p1, c1, rfl, _⟩ := hv
  have HG := Lib.hid g1
  clear g1
  go_wp2
  go_ret2
  exact ⟨rfl, Two.ext HH.out HG.out, grown_of_ext HG.out D⟩

set_option maxRecDepth 100000 in
set_option maxHeartbeats 1000000 in
theorem draw_to_some (D : Nat) (s : Int) (B n c : Nat) (adj : Nat → Nat → Bool) (pt : Option Addr) (p : Nat) (w0 w : World) (hG : GraphAt w0 B n adj pt c) (hx : Ext w0 w) (h : Drawer w D s (.pointer (some ⟨B, 0, none⟩))) (h0 : 0 < (GR.near n adj p).length) :
    Calls Try.prog 37 #[.pointer (some ⟨D, 0, none⟩), .int .i64 p] w fun e w' => e = .returned (.tuple #[.int .i64 (DR.toOf (GR.near n adj p) s : Nat), .bool true]) ∧ Drawer w' D (DR.nxt s) (.pointer (some ⟨B, 0, none⟩)) ∧ w.grownBy w' (some D) := by
  have HN := Lib.hid (graph_near B n c adj pt p w (hG.ext hx))
  rw [nearZ_nat'] at HN
  have hle := GR.near_length (n := n) (adj := adj) p
  have hn64 := hG.le
  have k1 := Two.c1 h
  have hDl := Two.lt h
  have HH := Lib.hid h
  clear h hx hG
  generalize GR.near n adj p = L at *
  obtain ⟨hb, htoe⟩ := DR.toOf_mem h0 s
  have hbb := DR.bel_bounds s (L.length : Nat) (by omega)
  have HD := Lib.hid (fun W (hd : Drawer W D s (.pointer (some ⟨B, 0, none⟩))) => draw_below D s (L.length : Nat) _ W hd (by omega) (by omega))
  obtain ⟨j, hj⟩ : ∃ j : Nat, DR.bel s (L.length : Nat) = (j : Int) := ⟨(DR.bel s (L.length : Nat)).toNat, by omega⟩
  simp only [hj, Int.toNat_natCast] at hb htoe hbb HD
  obtain ⟨x, hxe⟩ : ∃ x : Nat, L[j] = x := ⟨_, rfl⟩
  rw [htoe, hxe]
  have hget : (GR.ofN L)[j]? = some (x : Int) := by
    unfold GR.ofN
    rw [List.getElem?_map, List.getElem?_eq_getElem hb, hxe]
    rfl
  have HGET := Lib.hid hget
  obtain ⟨N, hN⟩ : ∃ N, L.length = N := ⟨_, rfl⟩
  have HLN := Lib.hid (show (GR.ofN L).length = N by rw [GR.ofN_length, hN])
  rw [hN] at h0 hle hb hbb HD
  clear hj htoe hxe hget hN
  go_enter Try.func37, Try.ntmps37
  go_wp2_with fail
  refine HN.out.mono ?_
  rintro e w1 ⟨v, rfl, hv, g1, hnew⟩
  obtain ⟨p1, c1, rfl, hl1, hv1⟩ := hv
  rw [HLN.out] at hl1 hv1 hnew ⊢
  obtain ⟨b, o, rfl, hat⟩ : ∃ b o, p1 = some ⟨b, o, none⟩ ∧ IntsAt w1 b o (GR.ofN L) := by
    rcases hv1 with h | h
    · omega
    · exact h
  have hbn : w.heap.size ≤ b := hnew _ _ _ rfl
  have hjlt : j < (GR.ofN L).length := by rw [HLN.out]; exact hb
  have a1 := hat j hjlt
  have hje : (GR.ofN L)[j] = (x : Int) := by
    have := HGET.out
    rw [List.getElem?_eq_getElem hjlt] at this
    injection this
  rw [hje] at a1
  have hd1 : Drawer w1 D s (.pointer (some ⟨B, 0, none⟩)) := Two.ext HH.out g1
  have a2 : (w1.setCell ⟨D, 0, none⟩ (.int .i64 (DR.nxt s))).cell? ⟨b, o + j, none⟩ = some (.int .i64 (x : Int)) := (World.cell?_of_block (a := ⟨b, o + j, none⟩) ((grown_setCell w1 D 0 _).block b (lt_of_cell a1) (by intro e; injection e with e; omega))).trans a1
  have HFIN : Hid (Drawer (w1.setCell ⟨D, 0, none⟩ (.int .i64 (DR.nxt s))) D (DR.nxt s) (.pointer (some ⟨B, 0, none⟩)) ∧ w.grownBy (w1.setCell ⟨D, 0, none⟩ (.int .i64 (DR.nxt s))) (some D)) := Lib.hid ⟨Two.set0 hd1 _, grown_more (grown_of_ext g1 D) (grown_setCell _ _ _ _)⟩
  have H2 := Lib.hid (HD.out w1 hd1)
  have hz : ((N : Int) == 0) = false := by rw [beq_eq_false_iff_ne]; omega
  clear hat hv1 hnew g1 hd1 HD a1 hje
  generalize w1.setCell ⟨D, 0, none⟩ (.int .i64 (DR.nxt s)) = w2 at *
  go_wp2_with fail
  refine H2.out.mono ?_
  rintro e w3 ⟨rfl, rfl⟩
  go_wp2
  go_ret2
  exact ⟨rfl, HFIN.out.1, HFIN.out.2⟩
end Go.Proofs.Ytcnjklbmlplehaa
