/- What add does: it counts an event. -/
import Derived.Test.YtmdeepdediafbaaVecJoin
import Derived.Test.YtmdeepdediafbaaRefVec
import Derived.Test.YtmdeepdediafbaaEvents
import Derived.Deep.RegionHeld3
import Derived.Deep.CutRange
import Derived.Deep.RegionWith
namespace Go.Proofs.Ytmdeepdediafbaa
open Go.RowKit Go.Shelf
attribute [local go_sem] Oper.semAt_some

/-- A tally in a block: its numbers, and its vector. -/
structure TallyAt (w : World) (T : Nat) (x : Nat → Int) (g : Value) (G : List Dot) : Prop where
  num : ∀ i, i < 44 → w.cell? ⟨T, i, none⟩ = some (.int .i64 (x i))
  giv : w.cell? ⟨T, 44, none⟩ = some g
  melt : ∀ i, i < 45 → w.frozen? ⟨T, i, none⟩ = false
  dots : DotsV w g G
  low : ∀ q n c, g = .slice (some q) n c → n ≠ 0 → T < q.block

/-- One more at a place. -/
def incAt (x : Nat → Int) (i : Nat) : Nat → Int := fun j => if j = i then x j + 1 else x j

theorem TallyAt.ext {w w' : World} {T : Nat} {x : Nat → Int} {g : Value} {G : List Dot} (h : TallyAt w T x g G) (he : Ext w w') : TallyAt w' T x g G :=
  ⟨fun i hi => he.cell (h.num i hi), he.cell h.giv, fun i hi => by
    rcases Nat.lt_or_ge i 44 with h1 | h1
    · exact (he.frozen (h.num i h1)).trans (h.melt i hi)
    · obtain rfl : i = 44 := by omega
      exact (he.frozen h.giv).trans (h.melt 44 hi), h.dots.ext he, h.low⟩

theorem DotsV.apart {w : World} {v : Value} {G : List Dot} {T i : Nat} {u : Value} (h : DotsV w v G) (hl : ∀ q n c, v = .slice (some q) n c → n ≠ 0 → T < q.block) : DotsV (w.setCell ⟨T, i, none⟩ u) v G := by
  obtain ⟨p, c, rfl, h1, h2, d1, d2, d3, d4⟩ := h
  refine ⟨p, c, rfl, h1, h2, d1, d2, d3, ?_⟩
  rcases d4 with d4 | ⟨b, off, rfl, hs⟩
  · exact .inl d4
  · by_cases h0 : G.length = 0
    · exact .inl h0
    · have := hl _ _ _ rfl h0
      exact .inr ⟨b, off, rfl, hs.of_block (Below.heap_setCell _ _ _ _ (by simp only at this ⊢; omega))⟩

theorem TallyAt.inc {w : World} {T : Nat} {x : Nat → Int} {g : Value} {G : List Dot} (h : TallyAt w T x g G) (i : Nat) (hi : i < 44) : TallyAt (w.setCell ⟨T, i, none⟩ (.int .i64 (x i + 1))) T (incAt x i) g G := by
  refine ⟨fun j hj => ?_, ?_, fun j hj => by rw [World.frozen?_setCell]; exact h.melt j hj, h.dots.apart h.low, h.low⟩
  · unfold incAt
    by_cases hij : j = i
    · subst hij
      rw [if_pos rfl]
      exact World.cell?_setCell_same' _ _ _ (by rw [h.num j hj]; rfl)
    · rw [if_neg hij]
      exact (World.cell?_setCell_other _ _ _ _ (by simp <;> omega)).trans (h.num j hj)
  · exact (World.cell?_setCell_other _ _ _ _ (by simp <;> omega)).trans h.giv

theorem TallyAt.drewN {w : World} {T : Nat} {x : Nat → Int} {g : Value} {G : List Dot} (h : TallyAt w T x g G) (k : Nat) : TallyAt (w.drewN k) T x g G := h.ext ((Ext.refl w).drewN k)

/-- The event's block lies as it lay. -/
theorem keep_cell {w : World} {T B i j : Nat} {v u : Value} (h : w.cell? ⟨B, j, none⟩ = some v) (hne : T ≠ B) : (w.setCell ⟨T, i, none⟩ u).cell? ⟨B, j, none⟩ = some v :=
  (World.cell?_setCell_other _ _ _ _ (by simp <;> omega)).trans h

/-- What an event's kind adds. -/
def bumpK (kind err : Int) (x : Nat → Int) : Nat → Int :=
  if 0 ≤ kind ∧ kind < 13 then (if err = 0 then incAt (incAt x (1 + kind.toNat)) (14 + kind.toNat) else incAt x (1 + kind.toNat)) else x
/-- What an event's error adds. -/
def bumpE (err : Int) (x : Nat → Int) : Nat → Int := if 0 ≤ err ∧ err < 17 then incAt x (27 + err.toNat) else x
/-- What an event's dot adds. -/
def give (e : Ev) (G : List Dot) : List Dot := if e.err = 0 ∧ Vec.dotE (e.dp, e.dc) = 0 then Vec.joinL G [(e.dp, e.dc)] else G
/-- What an event adds. -/
def bump (e : Ev) (x : Nat → Int) : Nat → Int := bumpE e.err (bumpK e.kind e.err (incAt x 0))

theorem incAt_le (x : Nat → Int) (i j : Nat) : x j ≤ incAt x i j ∧ incAt x i j ≤ x j + 1 := by unfold incAt; split <;> omega

/-- The state behind a piece of add: the tally, and the event's cells in their block. -/
structure AddAt (w : World) (wx : World) (T B : Nat) (x : Nat → Int) (g : Value) (G : List Dot) (err dp dc : Int) : Prop where
  tal : TallyAt wx T x g G
  e9 : wx.cell? ⟨B, 9, none⟩ = some (.int .i64 err)
  e10 : wx.cell? ⟨B, 10, none⟩ = some (.int .i64 dp)
  e11 : wx.cell? ⟨B, 11, none⟩ = some (.int .i64 dc)
  turn : Turned (· = T) w wx

theorem AddAt.inc {w wx : World} {T B : Nat} {x : Nat → Int} {g : Value} {G : List Dot} {err dp dc : Int} (h : AddAt w wx T B x g G err dp dc) (hne : T ≠ B) (i : Nat) (hi : i < 44) :
    AddAt w (wx.setCell ⟨T, i, none⟩ (.int .i64 (x i + 1))).drew T B (incAt x i) g G err dp dc :=
  ⟨(h.tal.inc i hi).drewN 1, keep_cell h.e9 hne, keep_cell h.e10 hne, keep_cell h.e11 hne, (h.turn.setCell (a := ⟨T, i, none⟩) (.inl rfl) _).drew⟩

theorem bumpK_in {k : Nat} {err : Int} {x : Nat → Int} (hk : k < 13) : bumpK (k : Int) err x = if err = 0 then incAt (incAt x (1 + k)) (14 + k) else incAt x (1 + k) := by
  unfold bumpK
  rw [if_pos (by omega)]
  simp
theorem bumpE_in {k : Nat} {x : Nat → Int} (hk : k < 17) : bumpE (k : Int) x = incAt x (27 + k) := by
  unfold bumpE
  rw [if_pos (by omega)]
  simp
theorem bumpK_le (kind err : Int) (x : Nat → Int) (j : Nat) : x j ≤ bumpK kind err x j ∧ bumpK kind err x j ≤ x j + 2 := by
  unfold bumpK
  split
  · split
    · have := incAt_le x (1 + kind.toNat) j
      have := incAt_le (incAt x (1 + kind.toNat)) (14 + kind.toNat) j
      omega
    · have := incAt_le x (1 + kind.toNat) j
      omega
  · omega

theorem AddAt.drewN {w wx : World} {T B : Nat} {x : Nat → Int} {g : Value} {G : List Dot} {err dp dc : Int} (h : AddAt w wx T B x g G err dp dc) (k : Nat) : AddAt w (wx.drewN k) T B x g G err dp dc :=
  ⟨h.tal.drewN k, h.e9, h.e10, h.e11, ⟨h.turn.os, h.turn.tape, h.turn.output, h.turn.size, h.turn.block⟩⟩
theorem AddAt.ext {w wx w2 : World} {T B : Nat} {x : Nat → Int} {g : Value} {G : List Dot} {err dp dc : Int} (h : AddAt w wx T B x g G err dp dc) (he : Ext wx w2) : AddAt w w2 T B x g G err dp dc :=
  ⟨h.tal.ext he, he.cell h.e9, he.cell h.e10, he.cell h.e11, ⟨he.os.trans h.turn.os, he.tape.trans h.turn.tape, he.output.trans h.turn.output, Nat.le_trans h.turn.size he.size, fun k hk hn => (he.block (by have := h.turn.size; omega)).trans (h.turn.block k hk hn)⟩⟩
theorem AddAt.take {w wx : World} {T B : Nat} {x : Nat → Int} {g : Value} {G : List Dot} {err dp dc : Int} (h : AddAt w wx T B x g G err dp dc) {g' : Value} {G' : List Dot} (hg : DotsV wx g' G') (hn : NewV (T + 1) g') :
    TallyAt (wx.setCell ⟨T, 44, none⟩ g') T x g' G' ∧ Turned (· = T) w (wx.setCell ⟨T, 44, none⟩ g') := by
  have hl : ∀ q n c, g' = .slice (some q) n c → n ≠ 0 → T < q.block := fun q n c e _ => by have := hn q n c e; omega
  refine ⟨⟨fun j hj => ?_, ?_, fun j hj => by rw [World.frozen?_setCell]; exact h.tal.melt j hj, hg.apart hl, hl⟩, h.turn.setCell (a := ⟨T, 44, none⟩) (.inl rfl) _⟩
  · exact (World.cell?_setCell_other _ _ _ _ (by simp <;> omega)).trans (h.tal.num j hj)
  · exact World.cell?_setCell_same' _ _ _ (by rw [h.tal.giv]; rfl)

theorem check_one (d : Dot) : Vec.checkE (-1) [d] = Vec.dotE d := by
  unfold Vec.checkE
  by_cases h : Vec.dotE d ≠ 0
  · rw [if_pos h]
  · rw [if_neg h]
    have h0 := Classical.not_not.1 h
    have := Vec.dotE_zero h0
    rw [if_neg (by omega), h0]
    rfl

theorem vec_check_one (p c : Int) (hd : Fit (p, c)) (w : World) :
    Calls Try.prog 29 #[.slice (some ⟨w.heap.size, 0, none⟩) 1 1] (w.alloc (.cells #[.int .i64 p, .int .i64 c] 47)) fun e w' => e = .returned (.int .i64 (Vec.dotE (p, c) : Nat)) ∧ Ext w w' := by
  obtain ⟨q, n, hv, _, _, hds⟩ := dots_one (p, c) hd w
  cases hv
  have := vec_check _ _ 1 _ _ hds
  rw [check_one] at this
  exact this.mono fun e w' h => ⟨h.1, ((Ext.refl w).alloc _).trans h.2⟩

set_option maxRecDepth 100000 in
set_option maxHeartbeats 4000000 in
theorem tally_add (T : Nat) (x : Nat → Int) (g : Value) (G : List Dot) (e : Ev) (w : World) (h : TallyAt w T x g G) (hx : ∀ i, i < 44 → 0 ≤ x i ∧ x i ≤ 1000000) (hd : Fit (e.dp, e.dc)) :
    Calls Try.prog 18 #[.pointer (some ⟨T, 0, none⟩), .agg e.cells.toArray] w fun r w' => (∃ v, r = .returned v) ∧ (∃ g', TallyAt w' T (bump e x) g' (give e G)) ∧ Turned (· = T) w w' := by
  have hT : T < w.heap.size := lt_of_cell h.giv
  obtain ⟨xF, hxF⟩ : ∃ xF, bump e x = xF := ⟨_, rfl⟩
  obtain ⟨GF, hGF⟩ : ∃ GF, give e G = GF := ⟨_, rfl⟩
  rw [hxF, hGF]
  obtain ⟨at0, kind, peer, tow, num, at1, mask, path, data, err, dp, dc⟩ := e
  have hI := h.inc 0 (by omega)
  have hA : AddAt w ((w.setCell ⟨T, 0, none⟩ (.int .i64 (x 0 + 1))).alloc (.cells #[.int .i64 at0, .int .i64 kind, .int .i64 peer, .int .i64 tow, .int .i64 num, .int .i64 at1, .int .i64 mask, .string path, .string data, .int .i64 err, .int .i64 dp, .int .i64 dc] 49)) T w.heap.size (incAt x 0) g G err dp dc := by
    have hs : (w.setCell ⟨T, 0, none⟩ (.int .i64 (x 0 + 1))).heap.size = w.heap.size := World.size_setCell _ _ _
    refine ⟨hI.ext ((Ext.refl _).alloc _), ?_, ?_, ?_, ((Turned.refl (· = T) w).setCell (a := ⟨T, 0, none⟩) (.inl rfl) _).alloc _⟩
    · have := alloc_cell (w.setCell ⟨T, 0, none⟩ (.int .i64 (x 0 + 1))) #[.int .i64 at0, .int .i64 kind, .int .i64 peer, .int .i64 tow, .int .i64 num, .int .i64 at1, .int .i64 mask, .string path, .string data, .int .i64 err, .int .i64 dp, .int .i64 dc] 49 9
      rw [hs] at this; exact this
    · have := alloc_cell (w.setCell ⟨T, 0, none⟩ (.int .i64 (x 0 + 1))) #[.int .i64 at0, .int .i64 kind, .int .i64 peer, .int .i64 tow, .int .i64 num, .int .i64 at1, .int .i64 mask, .string path, .string data, .int .i64 err, .int .i64 dp, .int .i64 dc] 49 10
      rw [hs] at this; exact this
    · have := alloc_cell (w.setCell ⟨T, 0, none⟩ (.int .i64 (x 0 + 1))) #[.int .i64 at0, .int .i64 kind, .int .i64 peer, .int .i64 tow, .int .i64 num, .int .i64 at1, .int .i64 mask, .string path, .string data, .int .i64 err, .int .i64 dp, .int .i64 dc] 49 11
      rw [hs] at this; exact this
  have hX1 : ∀ i, i < 44 → 0 ≤ incAt x 0 i ∧ incAt x 0 i ≤ 1000001 := fun i hi => by have := hx i hi; have := incAt_le x 0 i; omega
  have hA0 := h.ext ((Ext.refl w).alloc (.cells #[.int .i64 at0, .int .i64 kind, .int .i64 peer, .int .i64 tow, .int .i64 num, .int .i64 at1, .int .i64 mask, .string path, .string data, .int .i64 err, .int .i64 dp, .int .i64 dc] 49))
  have n0 := hA0.num 0 (by omega)
  have b0 := hx 0 (by omega)
  have m0 := hA0.melt 0 (by omega)
  simp only [Ev.cells, give, bump] at hd hxF hGF ⊢
  have HXF := Lib.hid hxF
  have HGF := Lib.hid hGF
  clear hxF hGF
  have HA := Lib.hid hA
  have HX := Lib.hid hX1
  have HD := Lib.hid hd
  clear h hx hA hI hX1 hA0 hd
  go_enter Try.func18, Try.ntmps18
  go_upto_region 3 with fail
  go_cut [21] from 6 (fun c wx => c = .bool (decide (0 ≤ kind ∧ kind < 13)) ∧ AddAt w wx T w.heap.size (incAt x 0) g G err dp dc)
  case first =>
    by_cases h1 : 0 ≤ kind
    · by_cases h2 : kind < 13
      · have d2 : decide (kind < 13) = true := decide_eq_true h2
        go_wp2
        go_meet
        exact ⟨by rw [decide_eq_true ⟨h1, h2⟩], HA.out⟩
      · have d2 : decide (kind < 13) = false := decide_eq_false h2
        go_wp2
        go_meet
        exact ⟨by rw [decide_eq_false (by omega)], HA.out⟩
    · have d1 : decide (kind ≥ 0) = false := decide_eq_false h1
      go_wp2
      go_meet
      exact ⟨by rw [decide_eq_false (by omega)], HA.out⟩
  case rest =>
  obtain ⟨rfl, hc1⟩ := hcut
  have H1 := Lib.hid hc1
  clear hc1 HA n0 b0 m0
  go_upto_if 21 with fail
  go_cut [] from 6 (fun wx => AddAt w wx T w.heap.size (bumpK kind err (incAt x 0)) g G err dp dc)
  case first =>
    by_cases h12 : 0 ≤ kind ∧ kind < 13
    · have d12 : decide (0 ≤ kind ∧ kind < 13) = true := decide_eq_true h12
      rw [d12]
      obtain ⟨k, rfl⟩ := Int.eq_ofNat_of_zero_le h12.1
      have hk : k < 13 := by omega
      have n1 := H1.out.tal.num (1 + k) (by omega)
      have n2 := H1.out.tal.melt (1 + k) (by omega)
      have b1 := HX.out (1 + k) (by omega)
      have hk1 : (0 : Int) ≤ (k : Int) := by omega
      have hk2 : (k : Int) < 13 := by omega
      clear d12 h12
      go_upto_region 4 with fail
      refine wp_region_noPanic ?_
      go_region
      refine NoPanic.normal ?_
      have hB := HX
      have hi2 := H1.out.inc (by omega) (1 + k) (by omega)
      generalize (wc.setCell ⟨T, 1 + k, none⟩ (.int .i64 (incAt x 0 (1 + k) + 1))).drew = w2 at *
      have H2 := Lib.hid hi2
      have f9 := H2.out.e9
      clear hi2 n1 n2 b1 H1
      by_cases he : err = 0
      · subst he
        have n1 := H2.out.tal.num (14 + k) (by omega)
        have n2 := H2.out.tal.melt (14 + k) (by omega)
        have b1 : 0 ≤ incAt (incAt x 0) (1 + k) (14 + k) ∧ incAt (incAt x 0) (1 + k) (14 + k) ≤ 1000002 := by have := HX.out (14 + k) (by omega); have := incAt_le (incAt x 0) (1 + k) (14 + k); omega
        go_upto_region 6 with fail
        refine wp_region_noPanic ?_
        go_region
        refine NoPanic.normal ?_
        have hi3 := H2.out.inc (by omega) (14 + k) (by omega)
        generalize (w2.setCell ⟨T, 14 + k, none⟩ (.int .i64 (incAt (incAt x 0) (1 + k) (14 + k) + 1))).drew = w3 at *
        have H3 := Lib.hid hi3
        clear hi3 n1 n2 b1
        go_wp2
        go_meet
        case rel => rw [bumpK_in hk, if_pos rfl]; exact H3.out
      · have he0 : (err == 0) = false := by rw [beq_eq_false_iff_ne]; exact he
        go_wp2
        go_meet
        case rel => rw [bumpK_in hk, if_neg he]; exact H2.out
    · have d12 : decide (0 ≤ kind ∧ kind < 13) = false := decide_eq_false h12
      have hb : bumpK kind err (incAt x 0) = incAt x 0 := if_neg h12
      rw [d12]
      go_wp2
      go_meet
      case rel => rw [hb]; exact H1.out
  case rest =>
  have H2 := Lib.hid hcut
  clear hcut H1
  have hX2 : ∀ i, i < 44 → 0 ≤ bumpK kind err (incAt x 0) i ∧ bumpK kind err (incAt x 0) i ≤ 1000003 := fun i hi => by have := HX.out i hi; have := bumpK_le kind err (incAt x 0) i; omega
  obtain ⟨x2, hx2⟩ : ∃ x2, bumpK kind err (incAt x 0) = x2 := ⟨_, rfl⟩
  rw [hx2] at hX2 H2
  have hxf := HXF.out
  rw [hx2] at hxf
  have HXE := Lib.hid hxf
  clear hx2 hxf HXF
  have HX2 := Lib.hid hX2
  have f9 := H2.out.e9
  clear hX2 HX
  go_upto_region 8 with fail
  go_cut [52] from 6 (fun c wx => c = .bool (decide (0 ≤ err ∧ err < 17)) ∧ wx = wc)
  case first =>
    by_cases h1 : 0 ≤ err
    · by_cases h2 : err < 17
      · have d2 : decide (err < 17) = true := decide_eq_true h2
        go_wp2
        go_meet
        exact ⟨by rw [decide_eq_true ⟨h1, h2⟩], rfl⟩
      · have d2 : decide (err < 17) = false := decide_eq_false h2
        go_wp2
        go_meet
        exact ⟨by rw [decide_eq_false (by omega)], rfl⟩
    · have d1 : decide (err ≥ 0) = false := decide_eq_false h1
      go_wp2
      go_meet
      exact ⟨by rw [decide_eq_false (by omega)], rfl⟩
  case rest =>
  obtain ⟨rfl, rfl⟩ := hcut
  go_upto_if 52 with fail
  go_cut [] from 6 (fun wx => AddAt w wx T w.heap.size (bumpE err x2) g G err dp dc)
  case first =>
    by_cases h12 : 0 ≤ err ∧ err < 17
    · have d12 : decide (0 ≤ err ∧ err < 17) = true := decide_eq_true h12
      rw [d12]
      obtain ⟨k, rfl⟩ := Int.eq_ofNat_of_zero_le h12.1
      have hk : k < 17 := by omega
      have n1 := H2.out.tal.num (27 + k) (by omega)
      have n2 := H2.out.tal.melt (27 + k) (by omega)
      have b1 := HX2.out (27 + k) (by omega)
      have hk1 : (0 : Int) ≤ (k : Int) := by omega
      have hk2 : (k : Int) < 17 := by omega
      clear d12 h12
      go_upto_region 9 with fail
      refine wp_region_noPanic ?_
      go_region
      refine NoPanic.normal ?_
      have hi2 := H2.out.inc (by omega) (27 + k) (by omega)
      have H3 := Lib.hid hi2
      clear hi2 n1 n2 b1
      go_wp2
      go_meet
      case rel => rw [bumpE_in hk]; exact H3.out
    · have d12 : decide (0 ≤ err ∧ err < 17) = false := decide_eq_false h12
      have hb : bumpE err x2 = x2 := if_neg h12
      rw [d12]
      go_wp2
      go_meet
      case rel => rw [hb]; exact H2.out
  case rest =>
  rw [HXE.out] at hcut
  have H3 := Lib.hid hcut
  clear hcut H2 HX2 HXE
  have f9 := H3.out.e9
  have f10 := H3.out.e10
  have f11 := H3.out.e11
  by_cases he : err = 0
  · subst he
    go_wp2_with fail
    refine (vec_check_one dp dc HD.out _).mono ?_
    obtain ⟨q, hq⟩ : ∃ q, Vec.dotE (dp, dc) = q := ⟨_, rfl⟩
    rw [hq]
    have HQ := Lib.hid hq
    clear hq
    rintro e w4 ⟨rfl, g4⟩
    have h4 := H3.out.ext g4
    have H4 := Lib.hid h4
    clear h4 g4 H3 f9 f10 f11
    by_cases h0 : q = 0
    · subst h0
      have hg := HGF.out
      rw [if_pos (by simp [HQ.out])] at hg
      have HG := Lib.hid hg
      have t44 := H4.out.tal.giv
      have f10 := H4.out.e10
      have f11 := H4.out.e11
      have hW : ∀ wx, DotsV wx g G → Calls Try.prog 30 #[g, .agg #[.int .i64 dp, .int .i64 dc]] wx fun e w' => ∃ v', e = .returned v' ∧ DotsV w' v' (Vec.joinL G [(dp, dc)]) ∧ NewV wx.heap.size v' ∧ Ext wx w' := fun wx h => vec_with g (dp, dc) G wx h HD.out
      have HW := Lib.hid hW
      clear hW hg HGF f9
      go_upto_region 11 with fail
      refine wp_region_noPanic ?_
      go_region_with (go_at_call 30; refine (HW.out _ (H4.out.tal.dots.ext ((Ext.refl _).drewN 1))).mono ?_; rintro e w5 ⟨v', rfl, hv, hn, g5⟩; have hv5 := Lib.hid hv; obtain ⟨p5, c5, rfl, _⟩ := hv; have h5 := H4.out.ext (((Ext.refl _).drewN 1).trans g5); have t5 := h5.tal.giv; have m5 := h5.tal.melt 44 (by omega))
      all_goals
        refine NoPanic.normal ?_
        have hs4 : T + 1 ≤ (w4.drewN 1).heap.size := by have := H4.out.turn.size; show T + 1 ≤ w4.heap.size; omega
        obtain ⟨r1, r2⟩ := h5.take hv5.out (hn.mono hs4)
        go_end0
        rw [← HG.out]
        exact ⟨⟨_, rfl⟩, ⟨_, r1⟩, r2⟩
    · have hq0 : ((q : Int) == 0) = false := by rw [beq_eq_false_iff_ne]; omega
      go_wp2
      go_end0
      have hg := HGF.out
      rw [if_neg (by simp [HQ.out, h0])] at hg
      rw [← hg]
      exact ⟨⟨_, rfl⟩, ⟨_, H4.out.tal⟩, H4.out.turn⟩
  · have he0 : (err == 0) = false := by rw [beq_eq_false_iff_ne]; exact he
    go_wp2
    go_end0
    have hg := HGF.out
    rw [if_neg (by simp [he])] at hg
    rw [← hg]
    exact ⟨⟨_, rfl⟩, ⟨_, H3.out.tal⟩, H3.out.turn⟩

end Go.Proofs.Ytmdeepdediafbaa
