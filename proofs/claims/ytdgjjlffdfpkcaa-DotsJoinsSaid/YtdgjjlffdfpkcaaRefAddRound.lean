/- The document's Add's second loop, one turn whole. PRINTED BY mk_refturn.py. -/
import Derived.Test.YtdgjjlffdfpkcaaRefAddTurn
namespace Go.Proofs.Ytdgjjlffdfpkcaa
open Go.RowKit
attribute [local go_sem] Oper.semAt_some

theorem one_dot (w : World) (d : Dot) : DotsAt (w.alloc (.cells #[.int .i64 d.1, .int .i64 d.2] 26)) w.heap.size 0 [d] := fun i hi => by
  obtain rfl : i = 0 := by simpa using hi
  exact ⟨alloc_cell _ _ _ 0, alloc_cell _ _ _ 1⟩

set_option maxRecDepth 100000 in
set_option maxHeartbeats 4000000 in
theorem add_turn {w wr : World} (D0 R0 X : Nat) (pb pe : Option Addr) (nb cb ne ce : Nat) (d : Dot) (s T : DS.S) (p1 p2 : Option Addr) (c1 c2 n1 n2 : Nat) (HD0 : Hid (D0 = w.heap.size + 1)) (HR0 : Hid (R0 = w.heap.size + 2)) (hXlt : w.heap.size + 2 < X)
    (HNN : Hid (n1 = T.base.length ∧ n2 = T.extra.length)) (hn2 : n2 ≤ 200) (HSEM : Hid (DS.Semi d.1 T)) (HDONE : Hid (DS.done d.1 T = DS.plus s d))
    (HA : Hid (AddB w wr (.slice pb nb cb) (.slice pe ne ce) d)) (HT : Hid (Two wr X 24 (.slice p1 n1 c1) (.slice p2 n2 c2))) (HB : Hid (DotsV wr (.slice p1 n1 c1) T.base)) (HE : Hid (DotsV wr (.slice p2 n2 c2) T.extra))
    (Q : Exit → Act → World → Prop) (u0 u1 u2 u5 u7 u8 u9 u10 u11 u12 u13 u14 u15 u16 u17 u18 u19 u20 u21 u22 u23 u24 u25 u26 u27 u28 u29 u30 u31 u32 u33 u34 u35 u36 u37 u38 u39 u40 u41 u42 u43 u44 u45 u46 u47 u48 u49 u50 u51 u52 u53 u54 u55 u56 u57 u58 u59 u60 u61 u62 u63 u64 u65 u66 u67 u68 u69 u70 u71 u72 u73 u74 u75 u76 u77 u78 u79 u80 u81 u82 u83 u84 u85 u86 u87 u88 u89 u90 u91 u92 u93 u94 u95 u96 u97 u98 u99 u100 u101 u102 u103 u104 u105 u106 u107 u108 u109 u110 u111 u112 u113 u114 u115 u116 u117 u118 u119 u120 u121 u122 u123 u124 u125 u126 u127 u128 : Value)
    (hback : Hid (∀ (W : World) (T2 : DS.S) (q1 q2 : Option Addr) (e1 e2 m1 m2 : Nat) (v11 v12 v13 v85 v86 v87 v88 v89 v90 v91 v92 v93 v94 v95 v96 v97 v98 v99 v100 v101 v102 v103 v104 v105 v106 v107 v108 v109 v110 v111 v112 v113 v114 v115 v116 v117 v118 v119 v120 v121 v122 v123 v124 v125 v126 v127 v128 : Value), Hid (m1 = T2.base.length ∧ m2 = T2.extra.length) → m2 < n2 → Hid (DS.Semi d.1 T2) → Hid (DS.done d.1 T2 = DS.plus s d) → Hid (AddB w W (.slice pb nb cb) (.slice pe ne ce) d) → Hid (Two W X 24 (.slice q1 m1 e1) (.slice q2 m2 e2)) → Hid (DotsV W (.slice q1 m1 e1) T2.base) → Hid (DotsV W (.slice q2 m2 e2) T2.extra) → Q .normal { tmps := (u0 :: u1 :: u2 :: .pointer (some ⟨D0, 0, none⟩) :: .pointer (some ⟨R0, 0, none⟩) :: u5 :: .pointer (some ⟨X, 0, none⟩) :: u7 :: u8 :: u9 :: u10 :: v11 :: v12 :: v13 :: u14 :: u15 :: u16 :: u17 :: u18 :: u19 :: u20 :: u21 :: u22 :: u23 :: u24 :: u25 :: u26 :: u27 :: u28 :: u29 :: u30 :: u31 :: u32 :: u33 :: u34 :: u35 :: u36 :: u37 :: u38 :: u39 :: u40 :: u41 :: u42 :: u43 :: u44 :: u45 :: u46 :: u47 :: u48 :: u49 :: u50 :: u51 :: u52 :: u53 :: u54 :: u55 :: u56 :: u57 :: u58 :: u59 :: u60 :: u61 :: u62 :: u63 :: u64 :: u65 :: u66 :: u67 :: u68 :: u69 :: u70 :: u71 :: u72 :: u73 :: u74 :: u75 :: u76 :: u77 :: u78 :: u79 :: u80 :: u81 :: u82 :: u83 :: u84 :: v85 :: v86 :: v87 :: v88 :: v89 :: v90 :: v91 :: v92 :: v93 :: v94 :: v95 :: v96 :: v97 :: v98 :: v99 :: v100 :: v101 :: v102 :: v103 :: v104 :: v105 :: v106 :: v107 :: v108 :: v109 :: v110 :: v111 :: v112 :: v113 :: v114 :: v115 :: v116 :: v117 :: v118 :: v119 :: v120 :: v121 :: v122 :: v123 :: v124 :: v125 :: v126 :: v127 :: v128 :: ([] : List Value)).toArray, defers := [] } W))
    (hout : Hid (∀ (W : World) (a b : Value) (v11 v85 v86 v87 v88 v89 v90 v91 v92 v93 v94 v95 v96 v97 v98 v99 v100 v101 v102 v103 v104 v105 v106 v107 v108 v109 v110 v111 v112 v113 v114 v115 v116 v117 v118 v119 v120 v121 v122 v123 v124 v125 v126 v127 v128 : Value), Two W R0 24 a b → SetV W (.agg #[a, b]) (DS.plus s d) → Ext w W → Q .ret { tmps := (u0 :: u1 :: u2 :: .pointer (some ⟨D0, 0, none⟩) :: .pointer (some ⟨R0, 0, none⟩) :: .bool true :: .pointer (some ⟨X, 0, none⟩) :: u7 :: u8 :: u9 :: u10 :: v11 :: u12 :: u13 :: u14 :: u15 :: u16 :: u17 :: u18 :: u19 :: u20 :: u21 :: u22 :: u23 :: u24 :: u25 :: u26 :: u27 :: u28 :: u29 :: u30 :: u31 :: u32 :: u33 :: u34 :: u35 :: u36 :: u37 :: u38 :: u39 :: u40 :: u41 :: u42 :: u43 :: u44 :: u45 :: u46 :: u47 :: u48 :: u49 :: u50 :: u51 :: u52 :: u53 :: u54 :: u55 :: u56 :: u57 :: u58 :: u59 :: u60 :: u61 :: u62 :: u63 :: u64 :: u65 :: u66 :: u67 :: u68 :: u69 :: u70 :: u71 :: u72 :: u73 :: u74 :: u75 :: u76 :: u77 :: u78 :: u79 :: u80 :: u81 :: u82 :: u83 :: u84 :: v85 :: v86 :: v87 :: v88 :: v89 :: v90 :: v91 :: v92 :: v93 :: v94 :: v95 :: v96 :: v97 :: v98 :: v99 :: v100 :: v101 :: v102 :: v103 :: v104 :: v105 :: v106 :: v107 :: v108 :: v109 :: v110 :: v111 :: v112 :: v113 :: v114 :: v115 :: v116 :: v117 :: v118 :: v119 :: v120 :: v121 :: v122 :: v123 :: v124 :: v125 :: v126 :: v127 :: v128 :: ([] : List Value)).toArray, defers := [] } W))
    (c : Code) (hc : (Try.f21.body.bind (loopAt 14)) = some c) :
    c.wp Try.prog Q { tmps := (u0 :: u1 :: u2 :: .pointer (some ⟨D0, 0, none⟩) :: .pointer (some ⟨R0, 0, none⟩) :: u5 :: .pointer (some ⟨X, 0, none⟩) :: u7 :: u8 :: u9 :: u10 :: u11 :: u12 :: u13 :: u14 :: u15 :: u16 :: u17 :: u18 :: u19 :: u20 :: u21 :: u22 :: u23 :: u24 :: u25 :: u26 :: u27 :: u28 :: u29 :: u30 :: u31 :: u32 :: u33 :: u34 :: u35 :: u36 :: u37 :: u38 :: u39 :: u40 :: u41 :: u42 :: u43 :: u44 :: u45 :: u46 :: u47 :: u48 :: u49 :: u50 :: u51 :: u52 :: u53 :: u54 :: u55 :: u56 :: u57 :: u58 :: u59 :: u60 :: u61 :: u62 :: u63 :: u64 :: u65 :: u66 :: u67 :: u68 :: u69 :: u70 :: u71 :: u72 :: u73 :: u74 :: u75 :: u76 :: u77 :: u78 :: u79 :: u80 :: u81 :: u82 :: u83 :: u84 :: u85 :: u86 :: u87 :: u88 :: u89 :: u90 :: u91 :: u92 :: u93 :: u94 :: u95 :: u96 :: u97 :: u98 :: u99 :: u100 :: u101 :: u102 :: u103 :: u104 :: u105 :: u106 :: u107 :: u108 :: u109 :: u110 :: u111 :: u112 :: u113 :: u114 :: u115 :: u116 :: u117 :: u118 :: u119 :: u120 :: u121 :: u122 :: u123 :: u124 :: u125 :: u126 :: u127 :: u128 :: ([] : List Value)).toArray, defers := [] } wr := by
  simp [Try.f21, loopAt, headRegion] at hc
  subst hc
  have hget := fun W (hW : Ext wr W) => ref_get _ T.base d.1 W (HB.out.ext hW)
  have hgl : getL T.base d.1 = Vec.cnt T.base d.1 := if_pos (Vec.check_ok.2 HSEM.out.vec)
  have hgb : 0 ≤ Vec.cnt T.base d.1 ∧ Vec.cnt T.base d.1 ≤ 1048576 := ⟨Vec.cnt_nonneg HSEM.out.vec _, Vec.cnt_le HSEM.out.vec _⟩
  rw [hgl] at hget
  have hnext : DS.next d.1 T = (d.1, Vec.cnt T.base d.1 + 1) := rfl
  obtain ⟨g, hgt⟩ : ∃ g, Vec.cnt T.base d.1 = g := ⟨_, rfl⟩
  rw [hgt] at hget hgb hnext
  have HNX := Lib.hid hnext
  have HGE := Lib.hid hget
  have hg1 := hgb.1
  have hg2 := hgb.2
  clear hgt hget hgl hgb hnext
  have r1 := HA.out.dot.c0
  have r2 := HT.out.c0
  rw [← HD0.out] at r1
  go_upto_region 14 with fail
  refine add_next D0 R0 X d.1 g p1 n1 c1 r1 r2 HGE hg1 hg2 _ _ _ _ _ _ _ _ _ _ _ _ _ _ _ _ _ _ _ _ _ _ _ _ _ _ _ _ _ _ _ _ _ _ _ _ _ _ _ _ _ _ _ _ _ _ _ _ _ _ _ _ _ _ _ _ _ _ _ _ _ _ _ _ _ _ _ _ _ _ _ _ _ _ _ _ _ _ _ _ _ _ _ _ _ _ _ _ _ _ _ _ _ _ _ _ _ _ _ _ _ _ _ _ _ _ _ _ _ _ _ _ _ _ _ _ _ _ _ _ _ _ _ _ _ _ _ ?_ _ (by rfl)
  refine Lib.hid ?_
  intro w1 Y v85 v86 v87 v88 v89 v90 v91 v92 v93 hY hX hYs
  clear r1 r2 HGE
  have HA1 := Lib.hid (HA.out.more hX)
  have HT1 := Lib.hid (HT.out.ext hX)
  have HB1 := Lib.hid (HB.out.ext hX)
  have HE1 := Lib.hid (HE.out.ext hX)
  have HY := Lib.hid hY
  have HXL := Lib.hid HT.out.lt
  have k1 := HT1.out.c1
  have k2 := HY.out.c0
  have k3 := HY.out.c1
  have hin := fun W (hW : Ext w1 W) => ref_in _ T.extra (d.1, g + 1) W (HE1.out.ext hW)
  obtain ⟨bb, hbb⟩ : ∃ bb, decide ((d.1, g + 1) ∈ T.extra) = bb := ⟨_, rfl⟩
  rw [hbb] at hin
  have HIN := Lib.hid hin
  have HBB := Lib.hid hbb
  clear hin hbb HA HT HB HE hX hY
  go_wp2_with fail
  refine (HIN.out _ (Ext.refl _)).mono ?_
  rintro e w2 ⟨rfl, g2⟩
  have HA2 := Lib.hid (HA1.out.more g2)
  have HT2 := Lib.hid (HT1.out.ext g2)
  have HB2 := Lib.hid (HB1.out.ext g2)
  have HE2 := Lib.hid (HE1.out.ext g2)
  have HY2 := Lib.hid (HY.out.ext g2)
  clear g2 k1 k2 k3 HA1 HT1 HB1 HE1 HY HIN
  cases bb with
  | false =>
    have hni : DS.next d.1 T ∉ T.extra := by rw [HNX.out]; exact of_decide_eq_false HBB.out
    have hend := DS.done_end hni
    rw [HDONE.out] at hend
    have HEND := Lib.hid hend
    clear hend hni
    have k0 := HT2.out.c0
    have k1 := HT2.out.c1
    have j0 := HA2.out.res.c0
    have j1 := HA2.out.res.c1
    have j2 := HA2.out.res.f0
    have j3 := HA2.out.res.f1
    rw [← HR0.out] at j0 j1 j2 j3
    go_wp2
    obtain ⟨o1, o2⟩ := HA2.out.ret (.slice p1 n1 c1) (.slice p2 n2 c2)
    rw [← HR0.out] at o1 o2
    refine hout.out _ (.slice p1 n1 c1) (.slice p2 n2 c2) _ _ _ _ _ _ _ _ _ _ _ _ _ _ _ _ _ _ _ _ _ _ _ _ _ _ _ _ _ _ _ _ _ _ _ _ _ _ _ _ _ _ _ _ _ o1 ?_ o2
    rw [HEND.out]
    have hr := HA2.out.res
    have hr1 := hr.set0 (.slice p1 n1 c1)
    rw [← HR0.out] at hr hr1
    have q0 := grown_setCell w2 R0 0 (.slice p1 n1 c1)
    have q1 := grown_setCell (w2.setCell ⟨R0, 0, none⟩ (.slice p1 n1 c1)) R0 1 (.slice p2 n2 c2)
    exact ⟨_, _, rfl, (HB2.out.box hr q0).box hr1 q1, (HE2.out.box hr q0).box hr1 q1⟩
  | true =>
    have hni : DS.next d.1 T ∈ T.extra := by rw [HNX.out]; exact of_decide_eq_true HBB.out
    have HNI := Lib.hid hni
    have hgood : DS.Good (d.1, g + 1) := by rw [← HNX.out]; exact HSEM.out.good _ hni
    have HFIT := Lib.hid hgood.fit
    have hmv : (DS.moved d.1 T).base = Vec.joinL T.base [(d.1, g + 1)] ∧ (DS.moved d.1 T).extra = T.extra.filter fun x => decide (x ≠ (d.1, g + 1)) := by
      unfold DS.moved
      rw [HNX.out]
      exact ⟨rfl, rfl⟩
    have HMV := Lib.hid hmv
    have hw := fun W (hW : Ext w2 W) => ref_with _ (d.1, g + 1) T.base W (HB2.out.ext hW) hgood.fit
    unfold dotV at hw
    rw [← hmv.1] at hw
    have HWI := Lib.hid hw
    have k0 := HT2.out.c0
    have k2 := HY2.out.c0
    have k3 := HY2.out.c1
    clear hni hgood hmv hw HBB
    go_wp2_with fail
    refine (HWI.out _ (Ext.refl _)).mono ?_
    rintro e w3 ⟨v3, rfl, hd3, g3⟩
    obtain ⟨p3, e3, rfl, hd3'⟩ := hd3
    generalize hm3 : (DS.moved d.1 T).base.length = m3 at *
    have HM3 := Lib.hid hm3
    have HT3 := Lib.hid (HT2.out.ext g3)
    have x0 := HT3.out.c0
    have x1 := HT3.out.f0
    have HG3 := Lib.hid g3
    have HD3 := Lib.hid hd3'
    clear hm3 g3 hd3' k0 k2 k3 HWI
    go_upto_region 18 with fail
    have hT4 := HT3.out.set0 (.slice p3 m3 e3)
    have hgr4 := grown_setCell w3 X 0 (.slice p3 m3 e3)
    have hA4 := (HA2.out.more HG3.out).box hgr4 hXlt
    have hE4 := (HE2.out.ext HG3.out).box HT3.out hgr4
    have hB4 : DotsV w3 (.slice p3 m3 e3) (DS.moved d.1 T).base := ⟨p3, e3, by rw [HM3.out], by rw [HM3.out]; exact HD3.out⟩
    have hB4 := hB4.box HT3.out hgr4
    have hY4 := (HY2.out.ext HG3.out).grown hgr4 (by have h1 := hYs; have h2 := HXL.out; omega)
    generalize w3.setCell ⟨X, 0, none⟩ (.slice p3 m3 e3) = w4 at *
    have HT4 := Lib.hid hT4
    have HA4 := Lib.hid hA4
    have HE4 := Lib.hid hE4
    have HB4 := Lib.hid hB4
    have HY4 := Lib.hid hY4
    clear hT4 hA4 hE4 hB4 hY4 hgr4 x0 x1 HT3 HG3 HD3 HT2 HA2 HB2 HE2 HY2
    have hnl := HNN.out.2
    have HNL := Lib.hid hnl
    clear hnl
    go_wp2
    go_loopw [12, 13] (fun lv iv W => ∃ (i : Nat) (out : List Dot), i ≤ n2 ∧ iv = .int .i64 i ∧ GapR w4 W lv out ((T.extra.take i).filter fun x => decide (x ≠ (d.1, g + 1)))) (fun _ iv _ => n2 - (intOf iv).toNat)
    case atStart => exact ⟨0, [], by omega, rfl, World.ownsRow_nil _ _ _ _, Ext.refl _, rfl⟩
    case round =>
      obtain ⟨i, out, hi, rfl, hI⟩ := hrel
      obtain ⟨p9, c9, rfl⟩ := row_slice hI.row
      have HI := Lib.hid hI
      have hx := hI.ext
      clear hI
      have b1 := (HT4.out.ext hx).c1
      have b2 := (HY4.out.ext hx).c0
      have b3 := (HY4.out.ext hx).c1
      by_cases hlt : i < n2
      · have hil : i < T.extra.length := by rw [← HNL.out]; exact hlt
        obtain ⟨be, oe, rfl, hat⟩ : ∃ b off, p2 = some ⟨b, off, none⟩ ∧ DotsAt wr b off T.extra := by
          obtain ⟨_, _, hv, _, _, _, _, _, h4⟩ := HE4.out.ext hx
          injection hv with e1 e2 e3
          subst e1
          rcases h4 with h | h
          · omega
          · exact h
        have a1 := (hat i hil).1
        have a2 := (hat i hil).2
        have hst : ∀ W2 : World, W2.cell? ⟨be, oe + i * 2, none⟩ = some (.int .i64 T.extra[i].1) → True := fun _ _ => trivial
        clear hst
        have hnx : (T.extra.take (i + 1)).filter (fun x => decide (x ≠ (d.1, g + 1))) = out ++ if decide (T.extra[i] ≠ (d.1, g + 1)) then [T.extra[i]] else [] := by
          rw [take_next T.extra i hil, List.filter_append, HI.out.eq]
          congr 1
          simp only [List.filter_cons, List.filter_nil]
        have hgx : DS.Good T.extra[i] := HSEM.out.good _ (List.getElem_mem hil)
        generalize T.extra[i] = x at *
        obtain ⟨y1, y2⟩ := x
        simp only at a1 a2
        have hol : out.length ≤ 200 := by
          rw [HI.out.eq]
          refine Nat.le_trans (List.length_filter_le _ _) ?_
          rw [List.length_take]
          omega
        have HNXT := Lib.hid hnx
        have HGX := Lib.hid hgx
        have HOL := Lib.hid hol
        clear hnx hgx hat hol
        have q1 := cell_ext b1
        have q2 := cell_ext b2
        have q3 := cell_ext b3
        have q4 := cell_ext a1
        have q5 := cell_ext a2
        by_cases e1 : y1 = d.1
        · by_cases e2 : y2 = g + 1
          · subst e1 e2
            have heq := HNXT.out
            rw [if_neg (by simp)] at heq
            have HEQ := Lib.hid heq
            clear heq
            go_wp2
            refine wp_region_quiet_ext (by kernel_rfl) (by kernel_rfl) ?_
            repeat (go_big_quiet_step ((first | fail)))
            refine wpQuiet_nil ?_
            intro w5 g5
            go_wp2
            go_roundw
            case rel => exact ⟨i + 1, out, by omega, by go_num, ⟨row_to HI.out.row g5, hx.trans g5, by rw [HEQ.out]; simp⟩⟩
            case measure => simp [intOf]; omega
          · subst e1
            have hne : ¬ ((d.1, y2) = ((d.1, g + 1) : Dot)) := fun e => e2 (by injection e)
            have heq := HNXT.out
            rw [if_pos (decide_eq_true hne)] at heq
            have HEQ := Lib.hid heq
            clear heq hne
            go_wp2
            refine wp_region_quiet_ext (by kernel_rfl) (by kernel_rfl) ?_
            repeat (go_big_quiet_step ((first | fail)))
            refine wpQuiet_nil ?_
            intro w5 g5
            have HG5 := Lib.hid g5
            have HY5 := Lib.hid ((HT4.out.ext hx).ext g5)
            have k1 := HY5.out.c1
            have k2 := g5.cell a1
            have k3 := g5.cell a2
            clear g5 b1 b2 b3 a1 a2 q1 q2 q3 q4 q5
            go_wp2_with (at_builtin; refine append_dots_at 119 125 w4.heap.size _ out [(d.1, y2)] (some ⟨w5.heap.size, 0, none⟩) 1 1 rfl rfl rfl (row_to HI.out.row (HG5.out.alloc _)) (.inr ⟨_, 0, rfl, one_dot w5 (d.1, y2)⟩) (by have := HOL.out; omega) (by simp) (by have h1 := hx.size; have h0 := HG5.out.size; have h2 := World.size_alloc w5 (.cells #[.int .i64 d.1, .int .i64 y2] 26); omega) ?_; intro v6 w6 hown6 hgrow6)
            go_roundw
            case rel =>
              have ha : Ext wr (w5.alloc (.cells #[.int .i64 d.1, .int .i64 y2] 26)) := HG5.out.alloc _
              exact ⟨i + 1, out ++ [(d.1, y2)], by omega, by go_num, ⟨hown6, ext_grownV (hx.trans ha) (row_to HI.out.row ha) hgrow6 (Nat.le_refl _), HEQ.out.symm⟩⟩
            case measure => simp [intOf]; omega
        · have hne : ¬ ((y1, y2) = ((d.1, g + 1) : Dot)) := fun e => e1 (by injection e)
          have heq := HNXT.out
          rw [if_pos (decide_eq_true hne)] at heq
          have HEQ := Lib.hid heq
          clear heq hne
          go_wp2
          refine wp_region_quiet_ext (by kernel_rfl) (by kernel_rfl) ?_
          repeat (go_big_quiet_step ((first | fail)))
          refine wpQuiet_nil ?_
          intro w5 g5
          have HG5 := Lib.hid g5
          have HY5 := Lib.hid ((HT4.out.ext hx).ext g5)
          have k1 := HY5.out.c1
          have k2 := g5.cell a1
          have k3 := g5.cell a2
          clear g5 b1 b2 b3 a1 a2 q1 q2 q3 q4 q5
          go_wp2_with (at_builtin; refine append_dots_at 119 125 w4.heap.size _ out [(y1, y2)] (some ⟨w5.heap.size, 0, none⟩) 1 1 rfl rfl rfl (row_to HI.out.row (HG5.out.alloc _)) (.inr ⟨_, 0, rfl, one_dot w5 (y1, y2)⟩) (by have := HOL.out; omega) (by simp) (by have h1 := hx.size; have h0 := HG5.out.size; have h2 := World.size_alloc w5 (.cells #[.int .i64 y1, .int .i64 y2] 26); omega) ?_; intro v6 w6 hown6 hgrow6)
          go_roundw
          case rel =>
            have ha : Ext wr (w5.alloc (.cells #[.int .i64 y1, .int .i64 y2] 26)) := HG5.out.alloc _
            exact ⟨i + 1, out ++ [(y1, y2)], by omega, by go_num, ⟨hown6, ext_grownV (hx.trans ha) (row_to HI.out.row ha) hgrow6 (Nat.le_refl _), HEQ.out.symm⟩⟩
          case measure => simp [intOf]; omega
      · obtain rfl : i = n2 := by omega
        have hfull : T.extra.take i = T.extra := List.take_of_length_le (by rw [HNL.out]; exact Nat.le_refl _)
        have hoe := HI.out.eq
        rw [hfull, ← HMV.out.2] at hoe
        have hlen := DS.moved_length HSEM.out HNI.out
        have hsem := DS.moved_semi HSEM.out HNI.out
        have hdone := DS.done_next HSEM.out HNI.out
        rw [HDONE.out] at hdone
        have HOE := Lib.hid hoe
        have HLEN := Lib.hid hlen
        have HSEM2 := Lib.hid hsem
        have HDONE2 := Lib.hid hdone.symm
        have hT5 := HT4.out.ext hx
        have z0 := hT5.c1
        have z1 := hT5.f1
        have HT5 := Lib.hid hT5
        clear hfull hoe hlen hsem hdone hT5 b1 b2 b3
        go_wp2
        have hgr := grown_setCell wr X 1 (.slice p9 out.length c9)
        have hd9 : DotsV wr (.slice p9 out.length c9) (DS.moved d.1 T).extra := by
          rw [← HOE.out]
          refine row_dots HI.out.row (fun y hy => ?_) ?_
          · rw [HOE.out] at hy
            exact (HSEM2.out.good y hy).fit
          · have h1 := HLEN.out
            have h2 := HNL.out
            rw [HOE.out]
            omega
        refine hback.out _ (DS.moved d.1 T) p3 p9 e3 c9 m3 out.length _ _ _ _ _ _ _ _ _ _ _ _ _ _ _ _ _ _ _ _ _ _ _ _ _ _ _ _ _ _ _ _ _ _ _ _ _ _ _ _ _ _ _ _ _ _ _ (Lib.hid ⟨HM3.out.symm, by rw [HOE.out]⟩) ?_ HSEM2 HDONE2 (Lib.hid ((HA4.out.more hx).box hgr hXlt)) (Lib.hid (HT5.out.set1 _)) (Lib.hid ((HB4.out.ext hx).box HT5.out hgr)) (Lib.hid (hd9.box HT5.out hgr))
        have h1 := HLEN.out
        have h2 := HNL.out
        rw [HOE.out]
        omega
end Go.Proofs.Ytdgjjlffdfpkcaa
