/- The walk of DotsGaps. -/
import Derived.Test.YtdgjjlffdfpkcaaSetBox
import Derived.Test.YtdgjjlffdfpkcaaDotsOpen
namespace Go.Proofs.Ytdgjjlffdfpkcaa
open Go.RowKit

theorem DotsV.at {W : World} {p : Option Addr} {c : Nat} {l : List Dot} (h : DotsV W (.slice p l.length c) l) : l.length = 0 ∨ ∃ b off, p = some ⟨b, off, none⟩ ∧ DotsAt W b off l := by
  obtain ⟨p', c', e, _, _, _, _, _, h⟩ := h
  injection e with e1
  rw [e1]
  exact h

theorem SetB.put2 {W : World} {B : Nat} {t : TypeId} {s : DS.S} {p1 p2 q1 q2 : Option Addr} {c1 c2 k1 k2 n1 n2 : Nat} (hB : Two W B t (.slice q1 n1 k1) (.slice q2 n2 k2)) (hb : DotsV W (.slice p1 s.base.length c1) s.base) (he : DotsV W (.slice p2 s.extra.length c2) s.extra) :
    SetB ((W.setCell ⟨B, 0, none⟩ (.slice p1 s.base.length c1)).setCell ⟨B, 1, none⟩ (.slice p2 s.extra.length c2)) B t s p1 c1 p2 c2 ∧ W.grownBy ((W.setCell ⟨B, 0, none⟩ (.slice p1 s.base.length c1)).setCell ⟨B, 1, none⟩ (.slice p2 s.extra.length c2)) (some B) := ⟨SetB.put hB hb he, two_stores _ _ _ _⟩

set_option maxRecDepth 100000 in
set_option maxHeartbeats 2000000 in
theorem law_gaps_few (p : Option Addr) (c n : Nat) (l : List Dot) (w : World) (hn : l.length = n) (hm : n ≤ 12) (hl : l.length = 0 ∨ ∃ b off, p = some ⟨b, off, none⟩ ∧ DotsAt w b off l) :
    Calls Try.prog 6 #[.slice p n c] w fun e w' => e = .returned (.bool true) ∧ Ext w w' := by
  have HL := Lib.hid hl
  have HN := Lib.hid hn
  clear hl hn
  go_enter Try.func6, Try.ntmps6
  go_wp2
  have b0 := SetB.new w 29 (s := DS.none) (dotsV_nil w) (dotsV_nil w)
  have k1 := b0.two.c0
  have k2 := b0.two.c1
  go_loopw [4] (fun i wr => ∃ (k : Nat) (p1 p2 : Option Addr) (c1 c2 : Nat), k ≤ n ∧ i = .int .i64 k ∧ (∀ d ∈ l.take k, d.2 ≤ 40) ∧ Ext w wr ∧ SetB wr w.heap.size 29 (DS.adds DS.none (l.take k)) p1 c1 p2 c2) (fun i _ => n - (intOf i).toNat)
  case atStart => exact ⟨0, _, _, _, _, by omega, rfl, by simp, (Ext.refl _).alloc _, b0⟩
  case round =>
    obtain ⟨k, p1, p2, c1, c2, hk, rfl, h40, hx, hB⟩ := hrel
    have k1 := hB.two.c0
    have k2 := hB.two.c1
    by_cases hlt : k < n
    · have hkl : k < l.length := by rw [HN.out]; exact hlt
      obtain ⟨b, off, rfl, hcl⟩ : ∃ b off, p = some ⟨b, off, none⟩ ∧ DotsAt w b off l := by rcases HL.out with h | h; (· omega); exact h
      have h1 := hx.cell (hcl k hkl).1
      have h2 := hx.cell (hcl k hkl).2
      clear hcl
      have HB := Lib.hid hB
      clear hB
      obtain ⟨d, hd⟩ : ∃ d, l[k] = d := ⟨_, rfl⟩
      rw [hd] at h1 h2
      by_cases hd40 : d.2 ≤ 40
      · have hadd := fun W (hW : Ext wr W) => set_add _ _ d W ((HB.out.ext hW).val) (by have := DS.adds_extra DS.none_ok (l.take k); have h0 : DS.none.extra.length = 0 := rfl; rw [List.length_take] at this; omega)
        unfold dotV at hadd
        have HA := Lib.hid hadd
        clear hadd
        go_wp2_with fail
        refine wp_region_noPanic ?_
        go_region_with (go_at_call 20; refine (HA.out _ (Ext.refl _).drew).mono ?_; rintro e w2 ⟨v2, rfl, hv2, g2⟩; obtain ⟨vb2, ve2, rfl, hb2, he2⟩ := hv2; have hb2' := Lib.hid hb2; have he2' := Lib.hid he2; obtain ⟨pb2, cb2, rfl, _⟩ := hb2; obtain ⟨pe2, ce2, rfl, _⟩ := he2; have t2 := HB.out.two.ext ((Ext.refl _).drew.trans g2); have j1 := t2.c0; have j2 := t2.c1; have j3 := t2.f0; have j4 := t2.f1)
        all_goals
          refine NoPanic.normal ?_
          go_wp2_with fail
          go_roundw
          case rel =>
            refine ⟨k + 1, pb2, pe2, cb2, ce2, by omega, by go_num, ?_, ext_grownBy (hx.trans ((Ext.refl _).drew.trans g2)) (two_stores _ _ _ _) (Nat.le_refl _), by rw [DS.adds_snoc _ _ _ hkl, hd]; exact SetB.put t2 hb2'.out he2'.out⟩
            intro x hx'
            rw [take_next l k hkl] at hx'
            rcases List.mem_append.1 hx' with h | h
            · exact h40 x h
            · obtain rfl := List.mem_singleton.1 h
              rw [hd]; exact hd40
          case measure => simp [intOf]; omega
      · go_wp2_with fail
        refine (dots_awake _).mono ?_
        rintro e w4 ⟨rfl, gA⟩
        go_wp2
        go_ret
        exact ⟨rfl, hx.trans gA⟩
    · obtain rfl : k = n := by omega
      have hall : l.take k = l := List.take_of_length_le (by rw [HN.out]; omega)
      rw [hall] at h40 hB k1 k2
      have hok : DS.Ok (DS.adds DS.none l) := DS.adds_ok DS.none_ok l
      have hfew := DS.gaps_few (by rw [HN.out]; omega) h40
      have hfill := DS.filled hok
      have hgn := fun i hi => DS.gap_new hok i hi
      have hex : (DS.adds DS.none l).extra.length ≤ 12 := by have := DS.adds_extra DS.none_ok l; have h0 : DS.none.extra.length = 0 := rfl; have := HN.out; omega
      have hlen : ∀ s, DS.Ok s → DS.len s = DS.size s := fun s h => DS.len_ok h
      have hsz : DS.size (DS.adds (DS.adds DS.none l) (DS.gaps (DS.adds DS.none l))) = DS.size (DS.adds DS.none l) + (DS.gaps (DS.adds DS.none l)).length := DS.adds_size hok _ (fun d hd => (DS.gap_good hok hd).1) (List.Pairwise.imp (S := fun a b => a ≠ b) (fun {a b} h e => by subst e; exact DS.lt_irrefl _ h) (DS.gaps_sorted hok)) (fun d hd => (DS.gap_good hok hd).2)
      have hzb : 0 ≤ DS.size (DS.adds DS.none l) ∧ DS.size (DS.adds DS.none l) ≤ 67108864 + 12 := by
        have := DS.tot_bound hok.vec
        unfold DS.size
        omega
      generalize hS : DS.adds DS.none l = S at *
      have hga := set_gaps _ S 600 wr hB.val (by omega)
      rw [DS.gapsF_all hok (by omega)] at hga
      generalize hgg : DS.gaps S = G at *
      have HGA := Lib.hid hga
      have HB := Lib.hid hB
      clear hga hB b0 hall h40 HL hgg
      go_wp2_with fail
      refine HGA.out.mono ?_
      rintro e w2 ⟨vg, rfl, hvg, g2⟩
      have B2 := HB.out.ext g2
      have k1 := B2.two.c0
      have k2 := B2.two.c1
      have hgc := hvg
      obtain ⟨pg, cg, rfl, _⟩ := hvg
      have HGC := Lib.hid hgc
      have hln := set_len _ S w2 B2.val (by omega)
      rw [hlen S hok] at hln
      have HLN := Lib.hid hln
      have HB2 := Lib.hid B2
      clear hgc hln B2
      go_wp2_with fail
      refine HLN.out.mono ?_
      rintro e w3 ⟨rfl, g3⟩
      have B3 := HB2.out.ext g3
      have k1 := B3.two.c0
      have k2 := B3.two.c1
      go_wp2_with fail
      go_loopw [7] (fun i wo => ∃ (k : Nat) (p1 p2 : Option Addr) (c1 c2 : Nat), k ≤ G.length ∧ i = .int .i64 k ∧ Ext w wo ∧ DotsV wo (.slice pg G.length cg) G ∧ SetB wo w.heap.size 29 (DS.adds S (G.take k)) p1 c1 p2 c2) (fun i _ => G.length - (intOf i).toNat)
      case atStart => exact ⟨0, _, _, _, _, by omega, rfl, hx.trans (g2.trans g3), HGC.out.ext g3, B3⟩
      case round =>
        obtain ⟨j, p1, p2, c1, c2, hj, rfl, hx, hG, hB⟩ := hrel
        have k1 := hB.two.c0
        have k2 := hB.two.c1
        have HB := Lib.hid hB
        clear hB
        have hokj := DS.adds_ok hok (G.take j)
        have hexj : (DS.adds S (G.take j)).extra.length ≤ 1000 := by have := DS.adds_extra hok (G.take j); rw [List.length_take] at this; omega
        by_cases hjl : j < G.length
        · rcases hG.at with h0 | ⟨gb, go, rfl, hs⟩
          · omega
          have HGJ := Lib.hid hG
          clear hG HGC
          have h1 := (hs j hjl).1
          have h2 := (hs j hjl).2
          have hgj := hgn j hjl
          obtain ⟨d, hd⟩ : ∃ d, G[j] = d := ⟨_, rfl⟩
          rw [hd] at h1 h2 hgj
          have hadd := fun W (hW : Ext wr W) => set_add _ _ d W ((HB.out.ext hW).val) (by omega)
          rw [hgj] at hadd
          unfold dotV at hadd
          have HA := Lib.hid hadd
          clear hadd hs
          go_wp2_with fail
          have h1' := ((Ext.refl wr).alloc (.cells #[.slice none 0 0, .slice none 0 0] 29)).cell h1
          have h2' := ((Ext.refl wr).alloc (.cells #[.slice none 0 0, .slice none 0 0] 29)).cell h2
          have k1' := ((Ext.refl wr).alloc (.cells #[.slice none 0 0, .slice none 0 0] 29)).cell k1
          have k2' := ((Ext.refl wr).alloc (.cells #[.slice none 0 0, .slice none 0 0] 29)).cell k2
          refine wp_region_noPanic ?_
          go_region_with (first
            | (go_at_call 20; refine (HA.out _ (Ext.refl _).drew).mono ?_; rintro e w4 ⟨v2, rfl, hv2, g4⟩; obtain ⟨vb2, ve2, rfl, hb2, he2⟩ := hv2; have hb2' := Lib.hid hb2; have he2' := Lib.hid he2; obtain ⟨pb2, cb2, rfl, _⟩ := hb2; obtain ⟨pe2, ce2, rfl, _⟩ := he2; have S5 := SetB.new w4 29 hb2'.out he2'.out; have g5 := (((Ext.refl wr).drew.trans g4).alloc (.cells #[.slice pb2 (DS.adds S (G.take (j + 1))).base.length cb2, .slice pe2 (DS.adds S (G.take (j + 1))).extra.length ce2] 29)); have O := HB.out.ext g5; have G5 := HGJ.out.ext g5; have E5 := hx.trans g5)
            | (go_at_call 20; refine (HA.out _ ((Ext.refl _).alloc _).drew).mono ?_; rintro e w4 ⟨v2, rfl, hv2, g4⟩; obtain ⟨vb2, ve2, rfl, hb2, he2⟩ := hv2; have hd5 := hb2; have he5 := he2; obtain ⟨pb2, cb2, rfl, _⟩ := hb2; obtain ⟨pe2, ce2, rfl, _⟩ := he2; have g5 := ((Ext.refl wr).alloc (.cells #[.slice none 0 0, .slice none 0 0] 29)).drew.trans g4; have T := (Two.new wr 29 (.slice none 0 0) (.slice none 0 0)).ext ((Ext.refl _).drew.trans g4); have j1 := T.c0; have j2 := T.c1; have j3 := T.f0; have j4 := T.f1; obtain ⟨S5, gS⟩ := SetB.put2 T hd5 he5; have O := (HB.out.ext g5).other T gS (by have := HB.out.two.lt; omega); have G5 := (HGJ.out.ext g5).box T gS; have E5 := ext_grownBy (hx.trans g5) gS hx.size))
          all_goals
            refine NoPanic.normal ?_
            have m1 := S5.two.c0
            have m2 := S5.two.c1
            have m3 := O.two.f0
            have m5 := O.two.c0
            have m6 := O.two.c1
            have m4 := O.two.f1
            go_wp2_with fail
            go_roundw
            case rel =>
              refine ⟨j + 1, pb2, pe2, cb2, ce2, by omega, by go_num, ext_grownBy E5 (two_stores _ _ _ _) (Nat.le_refl _), G5.box O.two (two_stores _ _ _ _), SetB.put O.two S5.base S5.extra⟩
            case measure => simp [intOf]; omega
        · obtain rfl : j = G.length := by omega
          rw [List.take_length] at k1 k2 HB hokj
          generalize DS.adds S G = R at *
          have he0 : R.extra.length = 0 := by rw [hfill]; rfl
          rw [he0] at k2
          have hga := set_gaps _ R 1 wr HB.out.val (by omega)
          rw [DS.gapsF_none hfill] at hga
          rw [he0] at hga
          have HG2 := Lib.hid hga
          have hln := fun W (hW : Ext wr W) => set_len _ R W (HB.out.val.ext hW) (by rw [hfill]; exact Nat.zero_le _)
          rw [hlen R hokj, hsz] at hln
          clear hsz hlen hj hgn HGC
          have hz1 := hzb.1
          have hz2 := hzb.2
          clear hzb
          generalize DS.size S = z at *
          generalize hGn : G.length = m at *
          rw [he0] at hln
          have HL2 := Lib.hid hln
          clear hga hln hGn
          go_wp2_with fail
          refine HG2.out.mono ?_
          rintro e w5 ⟨v5, rfl, hv5, g5⟩
          obtain ⟨p5, c5, rfl, _⟩ := hv5
          have m1 := g5.cell k1
          have m2 := g5.cell k2
          go_wp2_with fail
          refine (HL2.out _ g5).mono ?_
          rintro e w6 ⟨rfl, g6⟩
          go_wp2_with fail
          refine (dots_awake _).mono ?_
          rintro e w7 ⟨rfl, g7⟩
          go_wp2
          go_ret
          exact ⟨rfl, hx.trans (g5.trans (g6.trans g7))⟩

set_option maxRecDepth 100000 in
theorem law_gaps (p : Option Addr) (n c : Nat) (l : List Dot) (w : World) (h : DotsW w p n l) :
    Calls Try.prog 6 #[.slice p n c] w fun e w' => e = .returned (.bool true) ∧ Ext w w' := by
  by_cases hm : n ≤ 12
  · exact law_gaps_few p c n l w h.1 hm (by rw [h.1]; exact h.2.2)
  · clear h
    go_enter Try.func6, Try.ntmps6
    go_wp2_with fail
    refine (dots_awake _).mono ?_
    rintro e w7 ⟨rfl, g7⟩
    go_wp2
    go_ret
    exact ⟨rfl, g7⟩
end Go.Proofs.Ytdgjjlffdfpkcaa
