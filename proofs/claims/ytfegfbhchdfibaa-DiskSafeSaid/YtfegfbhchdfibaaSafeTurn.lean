/- One round of DiskSafe's loop over the names that stay, whole. PRINTED BY mk_saferound.py. -/
import Derived.Test.YtfegfbhchdfibaaSafeRound
import Derived.Test.YtfegfbhchdfibaaQuietG
namespace Go.Proofs.Ytfegfbhchdfibaa
open Go.RowKit

theorem txt_ne {a b : ByteArray} (h : a ≠ b) : (a.toList == b.toList) = false ∧ (a.toList != b.toList) = true := by
  have h1 : (a.toList == b.toList) = false := beq_eq_false_iff_ne.2 fun e => h (by
    rw [ByteArray.toList_eq, ByteArray.toList_eq] at e
    exact WideShapes.bytes_inj e)
  exact ⟨h1, by rw [bne, h1]; rfl⟩
theorem txt_eq {a b : ByteArray} (h : a = b) : (a.toList == b.toList) = true ∧ (a.toList != b.toList) = false := by
  subst h
  have h1 : (a.toList == a.toList) = true := by simp
  exact ⟨h1, by rw [bne, h1]; rfl⟩
theorem spared_next (kind : Int) (n t : ByteArray) (l : DK.Files) (k : Nat) (hk : k < l.length) : DK.spared kind n t (l.take (k + 1)) = DK.spared kind n t (l.take k) ++ if l[k].1 ≠ n ∧ (kind = 2 → l[k].1 ≠ t) then [l[k]] else [] := by
  rw [take_next l k hk]
  unfold DK.spared
  rw [List.filter_append]
  congr 1
  by_cases h1 : l[k].1 = n
  · rw [if_neg (by rintro ⟨h, _⟩; exact h h1), List.filter_cons, if_neg (by simp [h1])]; rfl
  · by_cases h2 : kind = 2 ∧ l[k].1 = t
    · rw [if_neg (by rintro ⟨_, h⟩; exact h h2.1 h2.2), List.filter_cons, if_neg (by simp [h2.1, h2.2])]; rfl
    · rw [if_pos ⟨h1, fun e e2 => h2 ⟨e, e2⟩⟩, List.filter_cons, if_pos (by
        rw [Bool.and_eq_true, Bool.or_eq_true, decide_eq_true_eq, decide_eq_true_eq, decide_eq_true_eq]
        refine ⟨h1, ?_⟩
        by_cases h3 : kind = 2
        · exact .inr fun e => h2 ⟨h3, e⟩
        · exact .inl h3)]; rfl

set_option maxRecDepth 100000 in
set_option maxHeartbeats 4000000 in
theorem safe_round {w0 wr : World} (X k k1 m : Nat) (kind : Int) (n t : ByteArray) (l : DK.Files) (pn pb p1 p2 : Option Addr) (cn cb c1 c2 : Nat) (hk : k ≤ m) (hm : m ≤ 1073741824) (HL : Hid (l.length = m))
    (HN : Hid (m = 0 ∨ ∃ b off, pn = some ⟨b, off, none⟩ ∧ StrsAt w0 b off (l.map (·.1)))) (HB : Hid (m = 0 ∨ ∃ b off, pb = some ⟨b, off, none⟩ ∧ StrsAt w0 b off (l.map (·.2))))
    (x0 : w0.cell? ⟨X, 0, none⟩ = some (.int .i64 kind)) (x1 : w0.cell? ⟨X, 1, none⟩ = some (.string n)) (x2 : w0.cell? ⟨X, 2, none⟩ = some (.string t))
    (HT : Hid (R2 w0 wr (.slice p1 k1 c1) (.slice p2 k1 c2) k1 k1 ((DK.spared kind n t (l.take k)).map (·.1)) ((DK.spared kind n t (l.take k)).map (·.2))))
    (Q : Exit → Act → World → Prop) (u0 u1 u2 u3 u4 u5 u6 u7 u10 u12 u13 u14 u18 u19 u20 u21 u22 u23 u24 u25 u26 u27 u28 u29 u30 u31 u32 u33 u34 u35 u36 u37 u38 u39 u40 u41 u42 u43 u44 u45 u46 u47 u48 u49 u50 u51 u52 u53 u54 u55 u56 u57 u58 u59 u60 u61 u62 u63 u64 u65 u66 u67 u68 u69 u70 u71 u72 u73 u74 u75 u76 u77 u78 u79 u80 u81 u82 u83 u84 u85 u86 u87 u88 u89 u90 u91 u92 u93 u94 u95 u96 u97 u98 u99 u100 u101 u102 u103 u104 u105 u106 u107 u108 u109 u110 u111 u112 u113 u114 u115 u116 u117 u118 u119 u120 u121 u122 u123 u124 u125 u126 u127 u128 u129 u130 u131 u132 u133 u134 u135 u136 u137 u138 u139 u140 u141 u142 u143 u144 u145 u146 u147 u148 u149 u150 u151 u152 u153 u154 u155 u156 u157 u158 u159 u160 u161 u162 u163 u164 u165 u166 u167 u168 u169 : Value)
    (hback : Hid (k < m → ∀ (W : World) (k2 : Nat) (q1 q2 : Option Addr) (e1 e2 : Nat) (v97 v98 v99 v100 v101 v102 v103 v104 v105 v106 v107 v108 v109 v110 v111 v112 v113 v114 v115 v116 v117 v118 v119 v120 v121 v122 v123 v124 v125 v126 v127 v128 v129 v130 v131 v132 v133 v134 v135 v136 v137 : Value), R2 w0 W (.slice q1 k2 e1) (.slice q2 k2 e2) k2 k2 ((DK.spared kind n t (l.take (k + 1))).map (·.1)) ((DK.spared kind n t (l.take (k + 1))).map (·.2)) → Q .normal { tmps := (u0 :: u1 :: u2 :: u3 :: u4 :: u5 :: u6 :: u7 :: .slice pn m cn :: .slice pb m cb :: u10 :: .pointer (some ⟨X, 0, none⟩) :: u12 :: u13 :: u14 :: .slice q1 k2 e1 :: .slice q2 k2 e2 :: .int .i64 ((k + 1 : Nat) : Int) :: u18 :: u19 :: u20 :: u21 :: u22 :: u23 :: u24 :: u25 :: u26 :: u27 :: u28 :: u29 :: u30 :: u31 :: u32 :: u33 :: u34 :: u35 :: u36 :: u37 :: u38 :: u39 :: u40 :: u41 :: u42 :: u43 :: u44 :: u45 :: u46 :: u47 :: u48 :: u49 :: u50 :: u51 :: u52 :: u53 :: u54 :: u55 :: u56 :: u57 :: u58 :: u59 :: u60 :: u61 :: u62 :: u63 :: u64 :: u65 :: u66 :: u67 :: u68 :: u69 :: u70 :: u71 :: u72 :: u73 :: u74 :: u75 :: u76 :: u77 :: u78 :: u79 :: u80 :: u81 :: u82 :: u83 :: u84 :: u85 :: u86 :: u87 :: u88 :: u89 :: u90 :: u91 :: u92 :: u93 :: u94 :: u95 :: u96 :: v97 :: v98 :: v99 :: v100 :: v101 :: v102 :: v103 :: v104 :: v105 :: v106 :: v107 :: v108 :: v109 :: v110 :: v111 :: v112 :: v113 :: v114 :: v115 :: v116 :: v117 :: v118 :: v119 :: v120 :: v121 :: v122 :: v123 :: v124 :: v125 :: v126 :: v127 :: v128 :: v129 :: v130 :: v131 :: v132 :: v133 :: v134 :: v135 :: v136 :: v137 :: u138 :: u139 :: u140 :: u141 :: u142 :: u143 :: u144 :: u145 :: u146 :: u147 :: u148 :: u149 :: u150 :: u151 :: u152 :: u153 :: u154 :: u155 :: u156 :: u157 :: u158 :: u159 :: u160 :: u161 :: u162 :: u163 :: u164 :: u165 :: u166 :: u167 :: u168 :: u169 :: ([] : List Value)).toArray, defers := [] } W))
    (hout : Hid (k = m → ∀ (v97 v98 v99 v100 : Value), Q (.exit 5) { tmps := (u0 :: u1 :: u2 :: u3 :: u4 :: u5 :: u6 :: u7 :: .slice pn m cn :: .slice pb m cb :: u10 :: .pointer (some ⟨X, 0, none⟩) :: u12 :: u13 :: u14 :: .slice p1 k1 c1 :: .slice p2 k1 c2 :: .int .i64 (k : Int) :: u18 :: u19 :: u20 :: u21 :: u22 :: u23 :: u24 :: u25 :: u26 :: u27 :: u28 :: u29 :: u30 :: u31 :: u32 :: u33 :: u34 :: u35 :: u36 :: u37 :: u38 :: u39 :: u40 :: u41 :: u42 :: u43 :: u44 :: u45 :: u46 :: u47 :: u48 :: u49 :: u50 :: u51 :: u52 :: u53 :: u54 :: u55 :: u56 :: u57 :: u58 :: u59 :: u60 :: u61 :: u62 :: u63 :: u64 :: u65 :: u66 :: u67 :: u68 :: u69 :: u70 :: u71 :: u72 :: u73 :: u74 :: u75 :: u76 :: u77 :: u78 :: u79 :: u80 :: u81 :: u82 :: u83 :: u84 :: u85 :: u86 :: u87 :: u88 :: u89 :: u90 :: u91 :: u92 :: u93 :: u94 :: u95 :: u96 :: v97 :: v98 :: v99 :: v100 :: u101 :: u102 :: u103 :: u104 :: u105 :: u106 :: u107 :: u108 :: u109 :: u110 :: u111 :: u112 :: u113 :: u114 :: u115 :: u116 :: u117 :: u118 :: u119 :: u120 :: u121 :: u122 :: u123 :: u124 :: u125 :: u126 :: u127 :: u128 :: u129 :: u130 :: u131 :: u132 :: u133 :: u134 :: u135 :: u136 :: u137 :: u138 :: u139 :: u140 :: u141 :: u142 :: u143 :: u144 :: u145 :: u146 :: u147 :: u148 :: u149 :: u150 :: u151 :: u152 :: u153 :: u154 :: u155 :: u156 :: u157 :: u158 :: u159 :: u160 :: u161 :: u162 :: u163 :: u164 :: u165 :: u166 :: u167 :: u168 :: u169 :: ([] : List Value)).toArray, defers := [] } wr))
    (c : Code) (hc : (Try.f3.body.bind (loopAt 30)) = some c) :
    c.wp Try.prog Q { tmps := (u0 :: u1 :: u2 :: u3 :: u4 :: u5 :: u6 :: u7 :: .slice pn m cn :: .slice pb m cb :: u10 :: .pointer (some ⟨X, 0, none⟩) :: u12 :: u13 :: u14 :: .slice p1 k1 c1 :: .slice p2 k1 c2 :: .int .i64 (k : Int) :: u18 :: u19 :: u20 :: u21 :: u22 :: u23 :: u24 :: u25 :: u26 :: u27 :: u28 :: u29 :: u30 :: u31 :: u32 :: u33 :: u34 :: u35 :: u36 :: u37 :: u38 :: u39 :: u40 :: u41 :: u42 :: u43 :: u44 :: u45 :: u46 :: u47 :: u48 :: u49 :: u50 :: u51 :: u52 :: u53 :: u54 :: u55 :: u56 :: u57 :: u58 :: u59 :: u60 :: u61 :: u62 :: u63 :: u64 :: u65 :: u66 :: u67 :: u68 :: u69 :: u70 :: u71 :: u72 :: u73 :: u74 :: u75 :: u76 :: u77 :: u78 :: u79 :: u80 :: u81 :: u82 :: u83 :: u84 :: u85 :: u86 :: u87 :: u88 :: u89 :: u90 :: u91 :: u92 :: u93 :: u94 :: u95 :: u96 :: u97 :: u98 :: u99 :: u100 :: u101 :: u102 :: u103 :: u104 :: u105 :: u106 :: u107 :: u108 :: u109 :: u110 :: u111 :: u112 :: u113 :: u114 :: u115 :: u116 :: u117 :: u118 :: u119 :: u120 :: u121 :: u122 :: u123 :: u124 :: u125 :: u126 :: u127 :: u128 :: u129 :: u130 :: u131 :: u132 :: u133 :: u134 :: u135 :: u136 :: u137 :: u138 :: u139 :: u140 :: u141 :: u142 :: u143 :: u144 :: u145 :: u146 :: u147 :: u148 :: u149 :: u150 :: u151 :: u152 :: u153 :: u154 :: u155 :: u156 :: u157 :: u158 :: u159 :: u160 :: u161 :: u162 :: u163 :: u164 :: u165 :: u166 :: u167 :: u168 :: u169 :: ([] : List Value)).toArray, defers := [] } wr := by
  simp [Try.f3, loopAt, headRegion] at hc
  subst hc
  have hk1 : k1 ≤ 1073741824 := by
    have h1 := HT.out.ln
    have h2 : (DK.spared kind n t (l.take k)).length ≤ (l.take k).length := List.length_filter_le _ _
    rw [List.length_map] at h1
    rw [List.length_take] at h2
    omega
  by_cases hlt : k < m
  · have hlk : k < l.length := by rw [HL.out]; exact hlt
    obtain ⟨b1, o1, rfl, hs1⟩ : ∃ b off, pn = some ⟨b, off, none⟩ ∧ StrsAt w0 b off (l.map (·.1)) := by
      rcases HN.out with h | h
      · omega
      · exact h
    obtain ⟨b2, o2, rfl, hs2⟩ : ∃ b off, pb = some ⟨b, off, none⟩ ∧ StrsAt w0 b off (l.map (·.2)) := by
      rcases HB.out with h | h
      · omega
      · exact h
    have ca := hs1 k (by rw [List.length_map]; exact hlk)
    have cs := hs2 k (by rw [List.length_map]; exact hlk)
    rw [List.getElem_map] at ca cs
    have hnx := spared_next kind n t l k hlk
    generalize l[k] = x at *
    obtain ⟨a, s⟩ := x
    simp only at ca cs hnx
    have HNX := Lib.hid hnx
    have HCS := Lib.hid cs
    have HBK := Lib.hid (hback.out hlt)
    clear hnx cs hs1 hs2 hback hout HN HB
    have r1 := HT.out.ext.cell ca
    have y0 := HT.out.ext.cell x0
    have y1 := HT.out.ext.cell x1
    have y2 := HT.out.ext.cell x2
    have HCA := Lib.hid ca
    clear x0 x1 x2 ca
    by_cases e1 : a = n
    · obtain ⟨t1, t2⟩ := txt_eq e1
      have hno := HNX.out
      rw [if_neg (by rintro ⟨h, _⟩; exact h e1)] at hno
      simp only [List.append_nil] at hno
      have HNO := Lib.hid hno
      clear hno
      go_wp2
      go_quiet (fail)
      go_wp2
      refine HBK.out _ k1 p1 p2 c1 c2 _ _ _ _ _ _ _ _ _ _ _ _ _ _ _ _ _ _ _ _ _ _ _ _ _ _ _ _ _ _ _ _ _ _ _ _ _ _ _ _ _ ?_
      rw [HNO.out]
      exact HT.out.more ((Ext.refl _).drewN _)
    · obtain ⟨t1, t2⟩ := txt_ne e1
      by_cases e2 : kind = 2
      · subst e2
        by_cases e3 : a = t
        · subst e3
          have t4 : (a.toList == a.toList) = true := by simp
          have t5 : (a.toList != a.toList) = false := by simp
          have hno := HNX.out
          rw [if_neg (by rintro ⟨_, h⟩; exact h rfl rfl)] at hno
          simp only [List.append_nil] at hno
          have HNO := Lib.hid hno
          clear hno
          go_wp2
          go_quiet (fail)
          go_wp2
          refine HBK.out _ k1 p1 p2 c1 c2 _ _ _ _ _ _ _ _ _ _ _ _ _ _ _ _ _ _ _ _ _ _ _ _ _ _ _ _ _ _ _ _ _ _ _ _ _ _ _ _ _ ?_
          rw [HNO.out]
          exact HT.out.more ((Ext.refl _).drewN _)
        · obtain ⟨t4, t5⟩ := txt_ne e3
          have hno := HNX.out
          rw [if_pos ⟨e1, fun _ => e3⟩] at hno
          have HNO := Lib.hid hno
          clear hno
          go_wp2
          go_quiet (fail)
          go_upto_region 33 with fail
          refine safe_two k k1 m b1 o1 b2 o2 a s _ _ cn cb c1 c2 p1 p2 hlt hm hk1 HCA.out HCS.out (Lib.hid (HT.out.more ((Ext.refl _).drewN _))) _ _ _ _ _ _ _ _ _ _ _ _ _ _ _ _ _ _ _ _ _ _ _ _ _ _ _ _ _ _ _ _ _ _ _ _ _ _ _ _ _ _ _ _ _ _ _ _ _ _ _ _ _ _ _ _ _ _ _ _ _ _ _ _ _ _ _ _ _ _ _ _ _ _ _ _ _ _ _ _ _ _ _ _ _ _ _ _ _ _ _ _ _ _ _ _ _ _ _ _ _ _ _ _ _ _ _ _ _ _ _ _ _ _ _ _ _ _ _ _ _ _ _ _ _ _ _ _ _ _ _ _ _ _ _ _ _ _ _ _ _ _ _ _ _ _ _ _ _ _ _ _ _ _ _ _ _ _ _ _ _ _ _ _ _ _ ?_ _ (by rfl)
          refine Lib.hid ?_
          intro W q1 q2 e5 e6 v124 v125 v126 v127 v128 v129 v130 v131 v132 v133 v134 v135 v136 v137 hR
          go_wp2
          refine HBK.out _ (k1 + 1) q1 q2 e5 e6 _ _ _ _ _ _ _ _ _ _ _ _ _ _ _ _ _ _ _ _ _ _ _ _ _ _ _ _ _ _ _ _ _ _ _ _ _ _ _ _ _ ?_
          rw [HNO.out, List.map_append, List.map_append]
          exact hR
      · have t3 : (kind != 2) = true := bne_iff_ne.2 e2
        have t6 : decide (kind = 2) = false := decide_eq_false e2
        have t7 : (kind == 2) = false := beq_eq_false_iff_ne.2 e2
        have hno := HNX.out
        rw [if_pos ⟨e1, fun h => absurd h e2⟩] at hno
        have HNO := Lib.hid hno
        clear hno
        go_wp2
        go_quiet (fail)
        go_upto_region 33 with fail
        refine safe_two k k1 m b1 o1 b2 o2 a s _ _ cn cb c1 c2 p1 p2 hlt hm hk1 HCA.out HCS.out (Lib.hid (HT.out.more ((Ext.refl _).drewN _))) _ _ _ _ _ _ _ _ _ _ _ _ _ _ _ _ _ _ _ _ _ _ _ _ _ _ _ _ _ _ _ _ _ _ _ _ _ _ _ _ _ _ _ _ _ _ _ _ _ _ _ _ _ _ _ _ _ _ _ _ _ _ _ _ _ _ _ _ _ _ _ _ _ _ _ _ _ _ _ _ _ _ _ _ _ _ _ _ _ _ _ _ _ _ _ _ _ _ _ _ _ _ _ _ _ _ _ _ _ _ _ _ _ _ _ _ _ _ _ _ _ _ _ _ _ _ _ _ _ _ _ _ _ _ _ _ _ _ _ _ _ _ _ _ _ _ _ _ _ _ _ _ _ _ _ _ _ _ _ _ _ _ _ _ _ _ ?_ _ (by rfl)
        refine Lib.hid ?_
        intro W q1 q2 e5 e6 v124 v125 v126 v127 v128 v129 v130 v131 v132 v133 v134 v135 v136 v137 hR
        go_wp2
        refine HBK.out _ (k1 + 1) q1 q2 e5 e6 _ _ _ _ _ _ _ _ _ _ _ _ _ _ _ _ _ _ _ _ _ _ _ _ _ _ _ _ _ _ _ _ _ _ _ _ _ _ _ _ _ ?_
        rw [HNO.out, List.map_append, List.map_append]
        exact hR
  · obtain rfl : k = m := by omega
    go_wp2
    exact hout.out (by first | rfl | trivial) _ _ _ _
end Go.Proofs.Ytfegfbhchdfibaa
