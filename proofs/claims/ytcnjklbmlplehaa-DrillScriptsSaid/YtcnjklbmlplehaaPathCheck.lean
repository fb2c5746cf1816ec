/- What the document's Check of paths answers to drawn paths. -/
import Derived.Test.YtcnjklbmlplehaaDrillOk
import Derived.WalkSpells
import Derived.Deep.RegionHeld3
namespace Go.Proofs.Ytcnjklbmlplehaa
open Go.RowKit

namespace DR
/-- The pieces of a text, up to a place: those that are whole, and the last. -/
def pc (s : ByteArray) : Nat → List ByteArray × ByteArray
  | 0 => ([], ⟨#[]⟩)
  | i + 1 => if s.get! i = 47 then ((pc s i).1 ++ [(pc s i).2], ⟨#[]⟩) else ((pc s i).1, (pc s i).2 ++ s.extract i (i + 1))
def one (b : UInt8) : ByteArray := ⟨#[b]⟩
theorem pc1 (b : UInt8) (h : b ≠ 47) : pc ⟨#[b]⟩ 1 = ([], one b) := by
  show (if b = 47 then _ else _) = _
  rw [if_neg h]
  rfl
theorem pc3 (b c : UInt8) (h : b ≠ 47) (h2 : c ≠ 47) : pc ⟨#[b, 47, c]⟩ 3 = ([one b], one c) := by
  have e1 : pc ⟨#[b, 47, c]⟩ 1 = ([], one b) := by
    show (if b = 47 then _ else _) = _
    rw [if_neg h]
    rfl
  have e2 : pc ⟨#[b, 47, c]⟩ 2 = ([one b], ⟨#[]⟩) := by
    show (if (47 : UInt8) = 47 then ((pc ⟨#[b, 47, c]⟩ 1).1 ++ [(pc ⟨#[b, 47, c]⟩ 1).2], _) else _) = _
    rw [if_pos rfl, e1]
    rfl
  show (if c = 47 then _ else ((pc ⟨#[b, 47, c]⟩ 2).1, (pc ⟨#[b, 47, c]⟩ 2).2 ++ _)) = _
  rw [if_neg h2, e2]
  rfl
theorem pc5 (b c d : UInt8) (h : b ≠ 47) (h2 : c ≠ 47) (h3 : d ≠ 47) : pc ⟨#[b, 47, c, 47, d]⟩ 5 = ([one b, one c], one d) := by
  have e1 : pc ⟨#[b, 47, c, 47, d]⟩ 1 = ([], one b) := by
    show (if b = 47 then _ else _) = _
    rw [if_neg h]
    rfl
  have e2 : pc ⟨#[b, 47, c, 47, d]⟩ 2 = ([one b], ⟨#[]⟩) := by
    show (if (47 : UInt8) = 47 then ((pc ⟨#[b, 47, c, 47, d]⟩ 1).1 ++ [(pc ⟨#[b, 47, c, 47, d]⟩ 1).2], _) else _) = _
    rw [if_pos rfl, e1]
    rfl
  have e3 : pc ⟨#[b, 47, c, 47, d]⟩ 3 = ([one b], one c) := by
    show (if c = 47 then _ else ((pc ⟨#[b, 47, c, 47, d]⟩ 2).1, (pc ⟨#[b, 47, c, 47, d]⟩ 2).2 ++ _)) = _
    rw [if_neg h2, e2]
    rfl
  have e4 : pc ⟨#[b, 47, c, 47, d]⟩ 4 = ([one b, one c], ⟨#[]⟩) := by
    show (if (47 : UInt8) = 47 then ((pc ⟨#[b, 47, c, 47, d]⟩ 3).1 ++ [(pc ⟨#[b, 47, c, 47, d]⟩ 3).2], _) else _) = _
    rw [if_pos rfl, e3]
    rfl
  show (if d = 47 then _ else ((pc ⟨#[b, 47, c, 47, d]⟩ 4).1, (pc ⟨#[b, 47, c, 47, d]⟩ 4).2 ++ _)) = _
  rw [if_neg h3, e4]
  rfl
/-- A small letter. -/
def Let (b : UInt8) : Prop := 97 ≤ b.toNat ∧ b.toNat ≤ 122
theorem Let.ne {b : UInt8} (h : Let b) : b ≠ 47 := fun e => by
  unfold Let at h
  rw [e] at h
  exact absurd h.1 (by decide)
theorem letter_one (s n : Int) (h1 : 1 ≤ n) (h2 : n ≤ 26) : ∃ b, letter s n = one b ∧ Let b := by
  have hb := bel_bounds s n h1
  refine ⟨(97 + (bel s n).toNat).toUInt8, encode_low _ hb.1 (by omega), ?_⟩
  have hk : ∀ m : Fin 26, Let (97 + m.val).toUInt8 := by unfold Let; decide +kernel
  exact hk ⟨(bel s n).toNat, by omega⟩
/-- The pieces of a drawn path are letters, three at the most. -/
theorem path_pc (s : Int) : ∃ (init : List ByteArray) (last : ByteArray), pc (pathOf s) (pathOf s).size = (init, last) ∧ init.length ≤ 2 ∧ ∀ x ∈ init ++ [last], ∃ b, x = one b ∧ Let b := by
  obtain ⟨hp1, hp2, _⟩ := pieces_bounds s
  unfold pathOf
  have e1 : pathS 1 (nxt s) = (⟨#[]⟩ ++ letter (nxt s) 3, nxt (nxt s)) := rfl
  have e2 : pathS 2 (nxt s) = (((⟨#[]⟩ ++ letter (nxt s) 3) ++ slash) ++ letter (nxt (nxt s)) 3, nxt (nxt (nxt s))) := rfl
  have e3 : pathS 3 (nxt s) = ((((((⟨#[]⟩ : ByteArray) ++ letter (nxt s) 3) ++ slash) ++ letter (nxt (nxt s)) 3) ++ slash) ++ letter (nxt (nxt (nxt s))) 3, nxt (nxt (nxt (nxt s)))) := rfl
  obtain ⟨b, hb, lb⟩ := letter_one (nxt s) 3 (by omega) (by omega)
  obtain ⟨c, hc, lc⟩ := letter_one (nxt (nxt s)) 3 (by omega) (by omega)
  obtain ⟨d, hd, ld⟩ := letter_one (nxt (nxt (nxt s))) 3 (by omega) (by omega)
  have hcase : pieces s = 1 ∨ pieces s = 2 ∨ pieces s = 3 := by omega
  rcases hcase with h | h | h
  · rw [h, e1, hb]
    refine ⟨[], one b, pc1 b lb.ne, by simp, fun x hx => ?_⟩
    rw [List.mem_singleton.1 hx]
    exact ⟨b, rfl, lb⟩
  · rw [h, e2, hb, hc]
    refine ⟨[one b], one c, pc3 b c lb.ne lc.ne, by simp, fun x hx => ?_⟩
    have : x = one b ∨ x = one c := by simpa using hx
    rcases this with rfl | rfl
    · exact ⟨b, rfl, lb⟩
    · exact ⟨c, rfl, lc⟩
  · rw [h, e3, hb, hc, hd]
    refine ⟨[one b, one c], one d, pc5 b c d lb.ne lc.ne ld.ne, by simp, fun x hx => ?_⟩
    have : x = one b ∨ x = one c ∨ x = one d := by simpa using hx
    rcases this with rfl | rfl | rfl
    · exact ⟨b, rfl, lb⟩
    · exact ⟨c, rfl, lc⟩
    · exact ⟨d, rfl, ld⟩
end DR

/-- Texts' cells. -/
def strCells (l : List ByteArray) : List Value := l.map Value.string
theorem row_put {W : World} {base g n c i : Nat} {e : TypeId} {xs : List Value} (h : W.ownsRow base e 1 (.slice (some ⟨g, 0, none⟩) n c) n xs) (u : Value) :
    (W.setCell ⟨g, i, none⟩ u).ownsRow base e 1 (.slice (some ⟨g, 0, none⟩) n c) n (xs.set i u) := by
  refine ⟨by rw [List.length_set]; exact h.1, ?_⟩
  rcases h.2 with ⟨e, _⟩ | ⟨g', cap, cur, e, hb, hg, hn, hc, hs, hx⟩
  · cases e
  · injection e with e1 e2 e3
    injection e1 with e1
    injection e1 with e1
    subst e1 e3
    refine .inr ⟨g, c, cur.setIfInBounds i u, rfl, hb, heap_setCell_eq hg i u, hn, hc, by rw [Array.size_setIfInBounds]; exact hs, ?_⟩
    rw [Array.toList_setIfInBounds, ← hx, List.take_set]
theorem row_cell {W : World} {base g n c i : Nat} {e : TypeId} {xs : List Value} (h : W.ownsRow base e 1 (.slice (some ⟨g, 0, none⟩) n c) n xs) (hi : i < n) : W.cell? ⟨g, i, none⟩ = xs[i]? ∧ W.frozen? ⟨g, i, none⟩ = false := by
  rcases h.2 with ⟨e, _⟩ | ⟨g', cap, cur, e, hb, hg, hn, hc, hs, hx⟩
  · cases e
  · injection e with e1 e2 e3
    injection e1 with e1
    injection e1 with e1
    subst e1 e3
    refine ⟨?_, (cell_row hg).2⟩
    rw [(cell_row hg).1, ← hx, List.getElem?_take, if_pos (by omega), Array.getElem?_toList]
theorem row_ptr {W : World} {base n : Nat} {e : TypeId} {v : Value} {xs : List Value} (h : W.ownsRow base e 1 v n xs) (hn : 1 ≤ n) : ∃ g c, v = .slice (some ⟨g, 0, none⟩) n c ∧ base ≤ g := by
  rcases h.2 with ⟨_, h0⟩ | ⟨g, cap, cur, rfl, hb, _⟩
  · omega
  · exact ⟨g, cap, rfl, hb⟩
theorem info_text : (Try.prog.info? 9).map (fun i => (i.zero, i.size, i.bytes)) = some (some (.string ⟨#[]⟩), 1, 16) := by kernel_rfl

set_option maxRecDepth 100000 in
set_option maxHeartbeats 2000000 in
theorem ref_pieces (s : ByteArray) (w : World) (hs : s.size ≤ 51) :
    Calls Try.prog 31 #[.string s] w fun e w' => ∃ g c, e = .returned (.slice (some ⟨g, 0, none⟩) ((DR.pc s s.size).1.length + 1) c) ∧ w'.ownsRow w.heap.size 9 1 (.slice (some ⟨g, 0, none⟩) ((DR.pc s s.size).1.length + 1) c) ((DR.pc s s.size).1.length + 1) (strCells ((DR.pc s s.size).1 ++ [(DR.pc s s.size).2])) ∧ Ext w w' := by
  obtain ⟨i0, hi, hz0, hz1, hz2⟩ := info_parts info_text
  have Hi := Lib.hid hi
  have hr0 : (w.alloc (.cells #[.string ⟨#[]⟩] 9)).ownsRow w.heap.size 9 1 (.slice (some ⟨w.heap.size, 0, none⟩) 1 1) 1 (strCells [⟨#[]⟩]) := ⟨rfl, .inr ⟨_, 1, #[.string ⟨#[]⟩], rfl, Nat.le_refl _, heap_alloc_new _ _, Nat.le_refl _, by unfold maxLen; omega, rfl, rfl⟩⟩
  have HR0 := Lib.hid hr0
  have HX0 := Lib.hid ((Ext.refl w).alloc (.cells #[.string ⟨#[]⟩] 9))
  clear hr0 hi
  go_enter Try.func31, Try.ntmps31
  go_wp2
  go_loopw [3, 4] (fun v i W => ∃ (k g c : Nat) (init : List ByteArray) (last : ByteArray), k ≤ s.size ∧ i = .int .i64 k ∧ v = .slice (some ⟨g, 0, none⟩) (init.length + 1) c ∧ W.ownsRow w.heap.size 9 1 (.slice (some ⟨g, 0, none⟩) (init.length + 1) c) (init.length + 1) (strCells (init ++ [last])) ∧ w.heap.size ≤ g ∧ Hid (DR.pc s k = (init, last)) ∧ init.length ≤ k ∧ last.size ≤ k ∧ Ext w W) (fun _ i _ => s.size - (intOf i).toNat)
  case atStart => exact ⟨0, w.heap.size, 1, [], ⟨#[]⟩, by omega, rfl, rfl, HR0.out, Nat.le_refl _, Lib.hid rfl, Nat.le_refl _, Nat.le_refl _, HX0.out⟩
  case round =>
    clear HR0 HX0
    obtain ⟨k, g, c, init, last, hk, rfl, rfl, hrow, hg, hpc, hil, hls, hx⟩ := hrel
    by_cases hlt : k < s.size
    · have hst : DR.pc s (k + 1) = if s.get! k = 47 then (init ++ [last], ⟨#[]⟩) else (init, last ++ s.extract k (k + 1)) := by
        show (if s.get! k = 47 then ((DR.pc s k).1 ++ [(DR.pc s k).2], _) else ((DR.pc s k).1, (DR.pc s k).2 ++ s.extract k (k + 1))) = _
        rw [hpc.out]
      have hge : s.get! k = s[k]'hlt := by
        show s.get! k = _
        simp [ByteArray.get!, getElem!_pos, hlt]
        rfl
      rw [hge] at hst
      have HROW := Lib.hid hrow
      have HX := Lib.hid hx
      have hki : (k : Int) < (s.size : Int) := by omega
      by_cases h47 : s[k]'hlt = 47
      · rw [if_pos h47] at hst
        have hb : (((s[k]'hlt).toNat : Int) == 47) = true := by rw [h47]; rfl
        have HST := Lib.hid hst
        have HR2 := Lib.hid (row_to hrow ((Ext.refl wr).alloc (.cells #[.string ⟨#[]⟩] 9)))
        have HX2 := Lib.hid (hx.alloc (.cells #[.string ⟨#[]⟩] 9))
        have HS2 := Lib.hid (World.size_alloc wr (.cells #[.string ⟨#[]⟩] 9))
        have HS3 := hx.size
        clear hst hge hrow hx h47
        go_wp2_with (at_builtin; refine wpList_append_own_at _ rfl _ _ 70 rfl w.heap.size 9 i0 (.string ⟨#[]⟩) 1 16 Try.underlying70 Hi.out hz0 hz1 hz2 rfl (by decide) _ _ _ rfl HR2.out ⟨wr.heap.size, 0, none⟩ 1 1 [.string ⟨#[]⟩] rfl rfl (cell_one_new _ _ _) (by simp [Value.oneCell']) (by unfold maxLen; omega) (by omega) (by rw [HS2.out]; omega) ?_; intro v' w6 hown' hgrow _ _; obtain ⟨g2, c2, rfl, hg2⟩ := row_ptr hown' (by omega))
        go_roundw
        case rel =>
          refine ⟨k + 1, g2, c2, init ++ [last], ⟨#[]⟩, by omega, by go_num, by rw [List.length_append]; rfl, ?_, hg2, HST, by rw [List.length_append]; simp; omega, Nat.zero_le _, ext_grownV HX2.out HR2.out hgrow (Nat.le_refl _)⟩
          have e : strCells ((init ++ [last]) ++ [⟨#[]⟩]) = strCells (init ++ [last]) ++ [.string ⟨#[]⟩] := by unfold strCells; rw [List.map_append]; rfl
          rw [e, List.length_append]
          exact hown'
        case measure => simp [intOf]; omega
      · rw [if_neg h47] at hst
        have hb : (((s[k]'hlt).toNat : Int) == 47) = false := by
          rw [beq_eq_false_iff_ne]
          intro he
          exact h47 (UInt8.toNat_inj.1 (by show (s[k]'hlt).toNat = 47; omega))
        have HST := Lib.hid hst
        have hcl := row_cell hrow (i := init.length) (by omega)
        have hlast : (strCells (init ++ [last]))[init.length]? = some (.string last) := by
          unfold strCells
          rw [List.getElem?_map, List.getElem?_append_right (Nat.le_refl _), Nat.sub_self]
          rfl
        rw [hlast] at hcl
        obtain ⟨a1, a2⟩ := hcl
        have hput := row_put (i := init.length) hrow (.string (last ++ s.extract k (k + 1)))
        have hset : (strCells (init ++ [last])).set init.length (.string (last ++ s.extract k (k + 1))) = strCells (init ++ [last ++ s.extract k (k + 1)]) := by
          unfold strCells
          rw [List.map_append, List.map_append, List.set_append_right _ _ (by rw [List.length_map]; exact Nat.le_refl _), List.length_map, Nat.sub_self]
          rfl
        rw [hset] at hput
        have HPUT := Lib.hid hput
        have HX2 := Lib.hid (ext_grownBy hx (grown_setCell wr g init.length (.string (last ++ s.extract k (k + 1)))) hg)
        have hesz : (s.extract k (k + 1)).size = 1 := by rw [ByteArray.size_extract]; omega
        have hls2 : (last ++ s.extract k (k + 1)).size ≤ k + 1 := by rw [ByteArray.size_append]; omega
        have HLS := Lib.hid hls2
        have q1 : ¬ 9223372036854775807 < last.size + (s.extract k (k + 1)).size := by omega
        have q2 : ¬ 9223372036854775807 < (last ++ s.extract k (k + 1)).size := by omega
        clear hst hge hrow hx h47 hlast hput hset hls2 hesz
        go_wp2_with fail
        refine wp_region_noPanic ?_
        go_region
        all_goals
          refine NoPanic.normal ?_
          go_wp2_with fail
          go_roundw
          case rel => exact ⟨k + 1, g, c, init, _, by omega, by go_num, rfl, row_to HPUT.out (Ext.refl _).drew, hg, HST, by omega, HLS.out, HX2.out.drew⟩
          case measure => simp [intOf]; omega
    · obtain rfl : k = s.size := by omega
      have e1 := hpc.out
      have HROW := Lib.hid hrow
      have HX := Lib.hid hx
      clear hrow hx
      go_wp2
      go_ret
      rw [hpc.out]
      exact ⟨g, c, rfl, HROW.out, HX.out⟩

set_option maxRecDepth 100000 in
set_option maxHeartbeats 1000000 in
theorem ref_name (b : UInt8) (w : World) (hb : DR.Let b) : Calls Try.prog 32 #[.string (DR.one b)] w fun e w' => e = .returned (.bool true) ∧ w = w' := by
  obtain ⟨h1, h2⟩ := hb
  obtain ⟨s, hs⟩ : ∃ s, DR.one b = s := ⟨_, rfl⟩
  have hsz : s.size = 1 := by rw [← hs]; rfl
  have hget : ∀ h : 0 < s.size, s[0]'h = b := by
    subst hs
    intro h
    rfl
  have hk : ∀ m : Fin 26, ((DR.one (97 + m.val).toUInt8).toList == [46]) = false ∧ ((DR.one (97 + m.val).toUInt8).toList == [46, 46]) = false := by decide +kernel
  have hbe : b = (97 + (b.toNat - 97)).toUInt8 := by
    apply UInt8.toNat_inj.1
    rw [show 97 + (b.toNat - 97) = b.toNat by omega]
    simp
  have hk2 := hk ⟨b.toNat - 97, by omega⟩
  simp only at hk2
  rw [← hbe, hs] at hk2
  obtain ⟨d1, d2⟩ := hk2
  have h0 : 0 < s.size := by omega
  have x1 : decide (((s[0]'h0).toNat : Int) < 97) = false := by rw [hget h0]; exact decide_eq_false (by omega)
  have x2 : decide ((122 : Int) < ((s[0]'h0).toNat : Int)) = false := by rw [hget h0]; exact decide_eq_false (by omega)
  clear hk hbe hget
  rw [hs]
  go_enter Try.func32, Try.ntmps32
  go_wp2
  refine wp_loop_rounds 2 ?_
  rw [rounds_succ]
  go_wp2
  rw [rounds_succ]
  go_wp2
  go_ret
  exact ⟨rfl, rfl⟩

set_option maxRecDepth 100000 in
set_option maxHeartbeats 1000000 in
theorem ref_check04 (s : ByteArray) (init : List ByteArray) (last : ByteArray) (w : World) (hpc : DR.pc s s.size = (init, last)) (hs : s.size ≤ 51) (hil : init.length ≤ 2) (hall : ∀ x ∈ init ++ [last], ∃ b, x = DR.one b ∧ DR.Let b) :
    Calls Try.prog 17 #[.string s] w fun e w' => e = .returned (.int .i64 0) ∧ Ext w w' := by
  have hp := ref_pieces s w hs
  rw [hpc] at hp
  have HP := Lib.hid hp
  have hsi : (s.size : Int) ≤ 51 := by omega
  have hcell : ∀ i, i < init.length + 1 → ∃ b, (strCells (init ++ [last]))[i]? = some (.string (DR.one b)) ∧ DR.Let b := by
    intro i hi
    have hil : i < (init ++ [last]).length := by rw [List.length_append]; exact hi
    obtain ⟨b, hb, hl⟩ := hall _ (List.getElem_mem hil)
    refine ⟨b, ?_, hl⟩
    unfold strCells
    rw [List.getElem?_map, List.getElem?_eq_getElem hil, hb]
    rfl
  have HC := Lib.hid hcell
  clear hp hcell hall hpc
  generalize hn : init.length = n at *
  have HN := Lib.hid hn
  clear hn
  go_enter Try.func17, Try.ntmps17
  go_wp2_with fail
  refine HP.out.mono ?_
  rintro e w1 ⟨g, c, rfl, hrow, g1⟩
  have HROW := Lib.hid hrow
  have HG := Lib.hid g1
  clear hrow g1
  go_wp2
  go_loopw [4] (fun i W => ∃ (k : Nat), k ≤ n + 1 ∧ i = .int .i64 k ∧ W = w1) (fun i _ => n + 1 - (intOf i).toNat)
  case atStart => exact ⟨0, by omega, rfl, rfl⟩
  case round =>
    obtain ⟨k, hk, rfl, rfl⟩ := hrel
    by_cases hlt : k < n + 1
    · obtain ⟨b, hb, hl⟩ := HC.out k hlt
      have a1 := (row_cell HROW.out hlt).1
      rw [hb] at a1
      have HNA := Lib.hid (fun W => ref_name b W hl)
      clear hb hl
      generalize DR.one b = x at *
      go_wp2_with fail
      refine (HNA.out _).mono ?_
      rintro e w2 ⟨rfl, rfl⟩
      go_wp2
      go_roundw
      case rel => exact ⟨k + 1, by omega, by go_num, trivial⟩
      case measure => simp [intOf]; omega
    · obtain rfl : k = n + 1 := by omega
      go_wp2
      go_ret
      exact ⟨rfl, HG.out⟩

theorem ref_check_path (s : Int) (w : World) : Calls Try.prog 17 #[.string (DR.pathOf s)] w fun e w' => e = .returned (.int .i64 0) ∧ Ext w w' := by
  obtain ⟨init, last, h1, h2, h3⟩ := DR.path_pc s
  exact ref_check04 _ init last w h1 (by have := DR.path_small s; omega) h2 h3
end Go.Proofs.Ytcnjklbmlplehaa
