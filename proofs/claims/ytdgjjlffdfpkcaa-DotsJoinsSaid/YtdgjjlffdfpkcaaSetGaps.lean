/- What Gaps of a set answers. -/
import Derived.Test.YtdgjjlffdfpkcaaSetAdd
import Derived.Test.YtdgjjlffdfpkcaaDotsGapsPlain
namespace Go.Proofs.Ytdgjjlffdfpkcaa
open Go.RowKit Go.Shelf

/-- The gaps that Gaps tells. -/
def DS.gapsF (s : DS.S) (most : Int) : List Dot := if DS.check s = 0 then (DS.gaps s).take most.toNat else []

/-- What has come: the row of gaps so far, the dot ahead in its box. -/
structure GapI (w W : World) (L : Nat) (all : List Dot) (m : Nat) (out : List Dot) (v : Value) (last : Dot) (rest : List Dot) : Prop where
  row : W.ownsRow (L + 1) 26 2 v out.length (dotCells out)
  len : out.length ≤ m
  eq : out ++ rest = all
  two : Two W L 26 (.int .i64 last.1) (.int .i64 last.2)
  ext : Ext w W
  low : w.heap.size ≤ L

theorem GapI.more {w W W' : World} {L m : Nat} {all out rest : List Dot} {v : Value} {last : Dot} (h : GapI w W L all m out v last rest) (he : Ext W W') : GapI w W' L all m out v last rest :=
  ⟨row_to h.row he, h.len, h.eq, h.two.ext he, h.ext.trans he, h.low⟩
theorem GapI.take {w W : World} {L m : Nat} {all out rest : List Dot} {v : Value} {last : Dot} (h : GapI w W L all m out v last rest) (hf : ∀ d ∈ all, Fit d) (hm : m ≤ 1000) (hl : m ≤ out.length ∨ rest = []) : DotsV W v (all.take m) := by
  have he : all.take m = out := by
    rcases hl with hl | hl
    · rw [← h.eq]; exact List.take_left' (Nat.le_antisymm h.len hl)
    · rw [← h.eq, hl, List.append_nil]; exact List.take_of_length_le h.len
  rw [he]
  exact row_dots h.row (fun y hy => hf y (by rw [← h.eq]; exact List.mem_append_left _ hy)) (by have := h.len; omega)

set_option maxRecDepth 100000 in
theorem set_gaps_no (v : Value) (s : DS.S) (most : Int) (w : World) (h : SetV w v s) (h0 : DS.check s ≠ 0) :
    Calls Try.prog 18 #[v, .int .i64 most] w fun e w' => ∃ v', e = .returned v' ∧ DotsV w' v' [] ∧ Ext w w' := by
  have hsv := h
  obtain ⟨vb, ve, rfl, hb, he⟩ := h
  have hE : Ext w (w.alloc (.cells #[vb, ve] 29)) := (Ext.refl w).alloc _
  have c1 : (w.alloc (.cells #[vb, ve] 29)).cell? ⟨w.heap.size, 0, none⟩ = some vb := alloc_cell w _ _ 0
  have c2 : (w.alloc (.cells #[vb, ve] 29)).cell? ⟨w.heap.size, 1, none⟩ = some ve := alloc_cell w _ _ 1
  have hck := set_check _ s _ (hsv.ext hE)
  obtain ⟨pb, cb, rfl, _⟩ := hb
  obtain ⟨pe, ce, rfl, _⟩ := he
  obtain ⟨q, hq⟩ : ∃ q, DS.check s = q := ⟨_, rfl⟩
  rw [hq] at hck h0
  have HC := Lib.hid hck
  have hq0 : ((q : Int) != 0) = true := by rw [bne_iff_ne]; omega
  clear hck hsv hq h0
  generalize s.base.length = nb at *
  generalize s.extra.length = ne at *
  go_enter Try.func18, Try.ntmps18
  go_wp2_with fail
  refine HC.out.mono ?_
  rintro e w1 ⟨rfl, g1⟩
  go_wp2
  go_ret
  exact ⟨_, rfl, ⟨none, 0, rfl, by simp, by unfold maxLen; omega, rfl, by simp, by simp, .inl rfl⟩, hE.trans g1⟩

set_option maxRecDepth 100000 in
set_option maxHeartbeats 4000000 in
theorem set_gaps_yes (v : Value) (s : DS.S) (most : Int) (w : World) (h : SetV w v s) (hok : DS.Ok s) (hm : most ≤ 1000) :
    Calls Try.prog 18 #[v, .int .i64 most] w fun e w' => ∃ v', e = .returned v' ∧ DotsV w' v' ((DS.gaps s).take most.toNat) ∧ Ext w w' := by
  have hsv := h
  obtain ⟨vb, ve, rfl, hb, he⟩ := h
  have hE : Ext w (w.alloc (.cells #[vb, ve] 29)) := (Ext.refl w).alloc _
  have c1 : (w.alloc (.cells #[vb, ve] 29)).cell? ⟨w.heap.size, 0, none⟩ = some vb := alloc_cell w _ _ 0
  have c2 : (w.alloc (.cells #[vb, ve] 29)).cell? ⟨w.heap.size, 1, none⟩ = some ve := alloc_cell w _ _ 1
  have hck := set_check _ s _ (hsv.ext hE)
  rw [DS.check_ok.2 hok] at hck
  have hget : ∀ p w1, Ext w w1 → Calls Try.prog 29 #[vb, .int .i64 p] w1 fun e w' => e = .returned (.int .i64 (Vec.cnt s.base p)) ∧ Ext w1 w' := fun p w1 hx => by
    have := vec_get vb s.base p w1 (hb.ext hx)
    unfold getL at this
    rw [if_pos (Vec.check_ok.2 hok.vec)] at this
    exact this
  obtain ⟨i0, hi, hz0, hz1, hz2⟩ := info_parts info_dot'
  have Hi := Lib.hid hi
  have HG := Lib.hid hget
  have HC := Lib.hid hck
  have hev := he
  obtain ⟨pb, cb, rfl, _⟩ := hb
  obtain ⟨pe, ce, rfl, _, _, he⟩ := he
  have hDA : ∀ i (h : i < s.extra.length), ∃ b off, pe = some ⟨b, off, none⟩ ∧ DotsAt w b off s.extra := fun i h => by
    rcases he.2.2.2 with h0 | h0
    · omega
    · exact h0
  have hlen : s.extra.length ≤ 70368744177664 := he.2.1
  have HDA := Lib.hid hDA
  clear hck hget hi hev he hsv hDA
  have hall : DS.gapsOf s.base (-1, 0) s.extra = DS.gaps s := rfl
  generalize hA : DS.gaps s = all at *
  have HALL := Lib.hid hall
  clear hall hA
  generalize hnb : s.base.length = nb at *
  clear hnb
  obtain ⟨ne, hne⟩ : ∃ ne, s.extra.length = ne := ⟨_, rfl⟩
  rw [hne] at hE c1 c2 HC hlen ⊢
  have HNE := Lib.hid hne
  have HOK := Lib.hid hok
  clear hne hok
  go_enter Try.func18, Try.ntmps18
  go_wp2_with fail
  refine HC.out.mono ?_
  rintro e w1 ⟨rfl, g1⟩
  have k1 := g1.cell c1
  have k2 := g1.cell c2
  have hE1 := hE.trans g1
  clear HC c1 c2 g1 hE
  have hW2 : Ext w1 (w1.alloc (.cells #[.int .i64 (-1), .int .i64 0] 26)) := (Ext.refl _).alloc _
  have hL := Two.new w1 26 (.int .i64 (-1)) (.int .i64 0)
  have j1 := hW2.cell k1
  have j2 := hW2.cell k2
  have hlow : w1.heap.size ≤ w1.heap.size := Nat.le_refl _
  have HFIT := Lib.hid (fun (d : Dot) (hd : d ∈ all) => (show Fit d from by rw [← HALL.out] at hd; exact (DS.gap_good HOK.out hd).1.fit))
  go_wp2
  generalize hw2 : w1.alloc (.cells #[.int .i64 (-1), .int .i64 0] 26) = w2 at *
  have hlow2 : w2.heap.size = w1.heap.size + 1 := by rw [← hw2]; exact World.size_alloc _ _
  clear hw2
  go_loopw [5, 18] (fun ov i wr => ∃ (k : Nat) (out : List Dot) (last : Dot), k ≤ ne ∧ i = .int .i64 k ∧ GapI w1 wr w1.heap.size all most.toNat out ov last (DS.gapsOf s.base last (s.extra.drop k)) ∧ (0 ≤ last.2 ∧ last.2 ≤ 1048576) ∧ ∀ y ∈ s.extra.drop k, DS.lt last y) (fun _ i _ => ne - (intOf i).toNat)
  case atStart => exact ⟨0, [], (-1, 0), by omega, rfl, ⟨World.ownsRow_nil _ _ _ _, by simp, by rw [List.drop_zero, List.nil_append]; exact HALL.out, hL, hW2, Nat.le_refl _⟩, by simp, by rw [List.drop_zero]; exact HOK.out.first⟩
  case round =>
    obtain ⟨k, out, last, hk, rfl, hI, hlast, hafter⟩ := hrel
    obtain ⟨wo, hwo⟩ : ∃ wo, wo = wr := ⟨_, rfl⟩
    subst hwo
    obtain ⟨p1, q1, rfl⟩ := row_slice hI.row
    by_cases hlt : k < ne
    · have hkl : k < s.extra.length := by rw [HNE.out]; exact hlt
      obtain ⟨b, off, hpe, hat0⟩ := HDA.out k hkl
      subst hpe
      have hxx := hE1.trans hI.ext
      have a1 := hxx.cell (hat0 k hkl).1
      have a2 := hxx.cell (hat0 k hkl).2
      have a3 := hI.two.c0
      have a4 := hI.two.c1
      have a5 := hI.ext.cell k1
      have hal : Ext wo (wo.alloc (.cells #[.int .i64 s.extra[k].1, .int .i64 s.extra[k].2] 26)) := (Ext.refl _).alloc _
      have x3 := hal.cell a3
      have x4 := hal.cell a4
      have x5 := hal.cell a5
      have x1 := (Two.new wo 26 (.int .i64 s.extra[k].1) (.int .i64 s.extra[k].2)).c0
      have x2 := (Two.new wo 26 (.int .i64 s.extra[k].1) (.int .i64 s.extra[k].2)).c1
      have hgd := HOK.out.good _ (List.getElem_mem hkl)
      have hfar := HOK.out.far _ (List.getElem_mem hkl)
      have hI0 := hI
      rw [List.drop_eq_getElem_cons hkl, DS.gapsOf] at hI
      have hpw := HOK.out.sorted.sublist (List.drop_sublist k s.extra)
      rw [List.drop_eq_getElem_cons hkl] at hpw hafter
      have hnext := (List.pairwise_cons.1 hpw).1
      have hlt0 := hafter _ (List.mem_cons_self ..)
      generalize s.extra[k] = d at *
      have hov : Value.ownBlock (.slice p1 out.length q1) ≠ some wo.heap.size := fun ej => by have := (hI0.row.lt _ ej).2; omega
      have HNEXT := Lib.hid hnext
      unfold DS.Good at hgd
      unfold DS.lt at hlt0
      have hd2 : d.2 ≤ 1048576 := hgd.2.2.2
      have hcn := Vec.cnt_nonneg HOK.out.vec d.1
      obtain ⟨fr, hfr⟩ : ∃ fr, DS.from_ s.base last d.1 = fr := ⟨_, rfl⟩
      have hfr2 : 0 ≤ fr ∧ fr < d.2 := by
        rw [← hfr]
        unfold DS.from_
        split <;> omega
      rw [hfr] at hI
      have hfr3 := hfr2.1
      have hfr4 := hfr2.2
      clear hpw hafter hnext hgd hfar hxx hfr2 hat0
      by_cases hp : d.1 = last.1
      · have hfq : last.2 = fr := by rw [← hfr]; unfold DS.from_; rw [if_pos hp]
        have hdp : (d.1 != last.1) = false := by rw [bne_eq_false_iff_eq]; exact hp
        subst hfq
        clear hlt0 hfr hp hcn
        go_wp2
        have hx3 := (Ext.refl wo).alloc (.cells #[.int .i64 d.1, .int .i64 d.2] 26)
        have hD3 := Two.new wo 26 (.int .i64 d.1) (.int .i64 d.2)
        generalize hw3 : wo.alloc (.cells #[.int .i64 d.1, .int .i64 d.2] 26) = w3 at *
        have hI3 := hI.more hx3
        clear hI
        go_loopw [5, 10] (fun ov nv wr => ∃ (out2 : List Dot) (n : Int), nv = .int .i64 n ∧ last.2 + 1 ≤ n ∧ n ≤ d.2 ∧ GapI w1 wr w1.heap.size all most.toNat out2 ov last (DS.rng d.1 n d.2 ++ DS.gapsOf s.base d (s.extra.drop (k + 1))) ∧ Two wr wo.heap.size 26 (.int .i64 d.1) (.int .i64 d.2) ∧ ov.ownBlock ≠ some wo.heap.size) (fun _ nv _ => (d.2 - intOf nv).toNat)
        case atStart => exact ⟨out, last.2 + 1, rfl, by omega, by omega, hI3, hD3, hov⟩
        case round =>
          obtain ⟨out2, n, rfl, hn1, hn2, hJ, hD, hov2⟩ := hrel
          obtain ⟨p2, c2, rfl⟩ := row_slice hJ.row
          have z1 := hD.c0
          have z2 := hD.c1
          have hlen2 := hJ.len
          clear hI3 hD3
          by_cases hnd : n < d.2
          · have b0 := DS.rng_cons (p := d.1) hnd
            by_cases hfull : (out2.length : Int) ≥ most
            · have hmm : most.toNat ≤ out2.length := by omega
              have hres := hJ.take HFIT.out (by omega) (.inl hmm)
              have hxx := hE1.trans hJ.ext
              have HRES := Lib.hid hres
              have HXX := Lib.hid hxx
              have hdd : decide ((out2.length : Int) ≥ most) = true := decide_eq_true hfull
              clear hJ hres hxx b0 hmm hD hfull hlen2 hov2
              go_wp2
              go_ret
              exact ⟨_, rfl, HRES.out, HXX.out⟩
            · have hdd : decide ((out2.length : Int) ≥ most) = false := decide_eq_false hfull
              have hb1 : out2.length + 1 ≤ most.toNat := by omega
              have b1 : out2.length + 1 ≤ maxLen := by unfold maxLen; omega
              have b2 : (out2.length + 1) * 16 ≤ 140737488355328 := by omega
              have hs2 := hJ.two.lt
              have hs3 := hD.lt
              have b3 : w1.heap.size + 1 ≤ (wr.alloc (.cells #[.int .i64 d.1, .int .i64 n] 26)).heap.size := by rw [World.size_alloc]; omega
              have hnew : ∀ j u, [Value.int .i64 d.1, Value.int .i64 n][j]? = some u → (wr.alloc (.cells #[.int .i64 d.1, .int .i64 n] 26)).cell? ((⟨wr.heap.size, 0, none⟩ : Addr).add j) = some u := cell_two_new wr _ _ _
              have HJ := Lib.hid hJ
              have HROW := Lib.hid (hJ.row.alloc (.cells #[.int .i64 d.1, .int .i64 n] 26))
              have HD := Lib.hid hD
              have HB0 := Lib.hid b0
              have HOV := Lib.hid hov2
              have happ := Lib.hid (dotCells_app out2 (d.1, n))
              clear hJ hD b0 hov2
              go_wp2_with (at_builtin; refine wpList_append_own_at _ rfl _ _ 22 rfl (w1.heap.size + 1) 26 i0 (dotV (0, 0)) 2 16 Try.underlying22 Hi.out hz0 hz1 hz2 rfl (by decide) _ _ _ rfl HROW.out ⟨wr.heap.size, 0, none⟩ 1 1 [.int .i64 d.1, .int .i64 n] rfl rfl hnew (by simp [Value.oneCell']) b1 b2 b3 ?_; intro v' w5 hown' hgrow _ hat)
              go_roundw
              case rel =>
                have ha : Ext wr (wr.alloc (.cells #[.int .i64 d.1, .int .i64 n] 26)) := (Ext.refl _).alloc _
                refine ⟨out2 ++ [(d.1, n)], n + 1, by first | rfl | go_num, by omega, by omega, ⟨?_, by simp; omega, ?_, (HJ.out.two.ext ha).grownV HROW.out hgrow (by omega), ext_grownV (HJ.out.ext.trans ha) HROW.out hgrow (by omega), HJ.out.low⟩, ?_, ?_⟩
                · rw [happ.out, List.length_append]; exact hown'
                · rw [← HJ.out.eq, HB0.out]; simp
                · exact (hgrow.block _ (by rw [World.size_alloc]; omega) (by intro e; exact HOV.out e.symm)).trans (HD.out.ext ha)
                · rcases hat with h | h
                  · rw [h]; exact HOV.out
                  · rw [h]; intro e; injection e with e; rw [World.size_alloc] at e; omega
              case measure => simp [intOf]; omega
          · obtain rfl : n = d.2 := by omega
            have y1 := hJ.two.c0
            have y2 := hJ.two.c1
            have y3 := hJ.two.f0
            have y4 := hJ.two.f1
            have hne : wo.heap.size ≠ w1.heap.size := by have := hI0.two.lt; omega
            have HJ := Lib.hid hJ
            clear hJ hD hov2
            go_wp2
            go_roundw
            case rel =>
              have hg1 := grown_setCell wr w1.heap.size 0 (.int .i64 d.1)
              have hg2 := grown_setCell (wr.setCell ⟨w1.heap.size, 0, none⟩ (.int .i64 d.1)) w1.heap.size 1 (.int .i64 d.2)
              have hrn : Value.ownBlock (.slice p2 out2.length c2) ≠ some w1.heap.size := fun ej => by have := (HJ.out.row.lt _ ej).1; omega
              refine ⟨k + 1, out2, d, by omega, by go_num, ⟨row_grown (row_grown HJ.out.row hg1 hrn) hg2 hrn, HJ.out.len, ?_, (HJ.out.two.set0 _).set1 _, ext_grownBy (ext_grownBy HJ.out.ext hg1 (by omega)) hg2 (by omega), HJ.out.low⟩, by omega, HNEXT.out⟩
              have := HJ.out.eq
              rw [DS.rng_nil (Int.le_refl _), List.nil_append] at this
              exact this
            case measure => simp [intOf]; omega
      · have HCN : Hid (Vec.cnt s.base d.1 = fr) := by show _ = _; rw [← hfr]; unfold DS.from_; rw [if_neg hp]
        have hdp : (d.1 != last.1) = true := by rw [bne_iff_ne]; exact hp
        clear hlt0 hfr hp hcn
        go_wp2_with fail
        refine (HG.out d.1 _ (hE1.trans (hI.ext.alloc _))).mono ?_
        rintro e w3 ⟨rfl, g3⟩
        rw [HCN.out]
        have hx3 := ((Ext.refl wo).alloc (.cells #[.int .i64 d.1, .int .i64 d.2] 26)).trans g3
        have hD3 := (Two.new wo 26 (.int .i64 d.1) (.int .i64 d.2)).ext g3
        have hI3 := hI.more hx3
        clear hI
        go_wp2
        go_loopw [5, 10] (fun ov nv wr => ∃ (out2 : List Dot) (n : Int), nv = .int .i64 n ∧ fr + 1 ≤ n ∧ n ≤ d.2 ∧ GapI w1 wr w1.heap.size all most.toNat out2 ov last (DS.rng d.1 n d.2 ++ DS.gapsOf s.base d (s.extra.drop (k + 1))) ∧ Two wr wo.heap.size 26 (.int .i64 d.1) (.int .i64 d.2) ∧ ov.ownBlock ≠ some wo.heap.size) (fun _ nv _ => (d.2 - intOf nv).toNat)
        case atStart => exact ⟨out, fr + 1, rfl, by omega, by omega, hI3, hD3, hov⟩
        case round =>
          obtain ⟨out2, n, rfl, hn1, hn2, hJ, hD, hov2⟩ := hrel
          obtain ⟨p2, c2, rfl⟩ := row_slice hJ.row
          have z1 := hD.c0
          have z2 := hD.c1
          have hlen2 := hJ.len
          clear hI3 hD3
          by_cases hnd : n < d.2
          · have b0 := DS.rng_cons (p := d.1) hnd
            by_cases hfull : (out2.length : Int) ≥ most
            · have hmm : most.toNat ≤ out2.length := by omega
              have hres := hJ.take HFIT.out (by omega) (.inl hmm)
              have hxx := hE1.trans hJ.ext
              have HRES := Lib.hid hres
              have HXX := Lib.hid hxx
              have hdd : decide ((out2.length : Int) ≥ most) = true := decide_eq_true hfull
              clear hJ hres hxx b0 hmm hD hfull hlen2 hov2
              go_wp2
              go_ret
              exact ⟨_, rfl, HRES.out, HXX.out⟩
            · have hdd : decide ((out2.length : Int) ≥ most) = false := decide_eq_false hfull
              have hb1 : out2.length + 1 ≤ most.toNat := by omega
              have b1 : out2.length + 1 ≤ maxLen := by unfold maxLen; omega
              have b2 : (out2.length + 1) * 16 ≤ 140737488355328 := by omega
              have hs2 := hJ.two.lt
              have hs3 := hD.lt
              have b3 : w1.heap.size + 1 ≤ (wr.alloc (.cells #[.int .i64 d.1, .int .i64 n] 26)).heap.size := by rw [World.size_alloc]; omega
              have hnew : ∀ j u, [Value.int .i64 d.1, Value.int .i64 n][j]? = some u → (wr.alloc (.cells #[.int .i64 d.1, .int .i64 n] 26)).cell? ((⟨wr.heap.size, 0, none⟩ : Addr).add j) = some u := cell_two_new wr _ _ _
              have HJ := Lib.hid hJ
              have HROW := Lib.hid (hJ.row.alloc (.cells #[.int .i64 d.1, .int .i64 n] 26))
              have HD := Lib.hid hD
              have HB0 := Lib.hid b0
              have HOV := Lib.hid hov2
              have happ := Lib.hid (dotCells_app out2 (d.1, n))
              clear hJ hD b0 hov2
              go_wp2_with (at_builtin; refine wpList_append_own_at _ rfl _ _ 22 rfl (w1.heap.size + 1) 26 i0 (dotV (0, 0)) 2 16 Try.underlying22 Hi.out hz0 hz1 hz2 rfl (by decide) _ _ _ rfl HROW.out ⟨wr.heap.size, 0, none⟩ 1 1 [.int .i64 d.1, .int .i64 n] rfl rfl hnew (by simp [Value.oneCell']) b1 b2 b3 ?_; intro v' w5 hown' hgrow _ hat)
              go_roundw
              case rel =>
                have ha : Ext wr (wr.alloc (.cells #[.int .i64 d.1, .int .i64 n] 26)) := (Ext.refl _).alloc _
                refine ⟨out2 ++ [(d.1, n)], n + 1, by first | rfl | go_num, by omega, by omega, ⟨?_, by simp; omega, ?_, (HJ.out.two.ext ha).grownV HROW.out hgrow (by omega), ext_grownV (HJ.out.ext.trans ha) HROW.out hgrow (by omega), HJ.out.low⟩, ?_, ?_⟩
                · rw [happ.out, List.length_append]; exact hown'
                · rw [← HJ.out.eq, HB0.out]; simp
                · exact (hgrow.block _ (by rw [World.size_alloc]; omega) (by intro e; exact HOV.out e.symm)).trans (HD.out.ext ha)
                · rcases hat with h | h
                  · rw [h]; exact HOV.out
                  · rw [h]; intro e; injection e with e; rw [World.size_alloc] at e; omega
              case measure => simp [intOf]; omega
          · obtain rfl : n = d.2 := by omega
            have y1 := hJ.two.c0
            have y2 := hJ.two.c1
            have y3 := hJ.two.f0
            have y4 := hJ.two.f1
            have hne : wo.heap.size ≠ w1.heap.size := by have := hI0.two.lt; omega
            have HJ := Lib.hid hJ
            clear hJ hD hov2
            go_wp2
            go_roundw
            case rel =>
              have hg1 := grown_setCell wr w1.heap.size 0 (.int .i64 d.1)
              have hg2 := grown_setCell (wr.setCell ⟨w1.heap.size, 0, none⟩ (.int .i64 d.1)) w1.heap.size 1 (.int .i64 d.2)
              have hrn : Value.ownBlock (.slice p2 out2.length c2) ≠ some w1.heap.size := fun ej => by have := (HJ.out.row.lt _ ej).1; omega
              refine ⟨k + 1, out2, d, by omega, by go_num, ⟨row_grown (row_grown HJ.out.row hg1 hrn) hg2 hrn, HJ.out.len, ?_, (HJ.out.two.set0 _).set1 _, ext_grownBy (ext_grownBy HJ.out.ext hg1 (by omega)) hg2 (by omega), HJ.out.low⟩, by omega, HNEXT.out⟩
              have := HJ.out.eq
              rw [DS.rng_nil (Int.le_refl _), List.nil_append] at this
              exact this
            case measure => simp [intOf]; omega
    · obtain rfl : k = ne := by omega
      rw [List.drop_eq_nil_of_le (by rw [HNE.out]; omega)] at hI
      have hres := hI.take HFIT.out (by omega) (.inr rfl)
      have hxx := hE1.trans hI.ext
      clear hI
      go_wp2
      go_ret
      exact ⟨_, rfl, hres, hxx⟩

end Go.Proofs.Ytdgjjlffdfpkcaa
