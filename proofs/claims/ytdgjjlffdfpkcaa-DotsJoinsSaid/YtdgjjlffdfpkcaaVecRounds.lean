/- The iterator takes the first list's first dot. The iterator takes the second list's first dot. A round of the iterator where one list is at its end. A round of the iterator where the first dots' peers are not the same. The iterator takes both lists' first dots. A round of the iterator where the first dots' peers are the same. -/
import Derived.Test.YtdgjjlffdfpkcaaVecPairsMem
import Derived.Deep.RegionHeld3

namespace Go.Proofs.Ytdgjjlffdfpkcaa
open Go.RowKit Go.Shelf
attribute [local go_sem] Oper.semAt_some

set_option maxRecDepth 100000 in
set_option maxHeartbeats 4000000 in
theorem region_a {wr w1 : World} {N Ba Bb G : Nat} {u v : Int} {x y : List Dot} {d : Dot} (hS : Setup wr N Ba Bb G (d :: x) y u v w1) (Q : Exit → Act → World → Prop) (u0 u3 u4 u6 u7 u8 u9 u10 u11 u12 u13 u14 u15 u16 u17 u18 u19 u20 u21 u22 u23 u24 u25 u26 u27 u28 u29 u30 u31 u32 u33 u34 u35 u36 u37 u38 u39 u40 u41 u42 u43 u44 u45 u46 u47 u48 u49 u50 u51 u52 u53 u54 u55 u56 u57 u58 u59 u60 u61 u62 u63 u64 u65 u66 u67 u68 u69 u70 u71 u72 u73 u74 u75 u76 u77 u78 u79 u80 u81 u82 u83 u84 u85 u86 u87 u88 u89 u90 u91 u92 u93 : Value)
    (hQ : ∀ (w3 : World) (v52 v53 v54 v55 v56 v57 v58 v59 v60 v61 v62 : Value), Setup wr N Ba Bb G x y d.2 v w3 → Q .normal { tmps := (u0 :: .pointer (some ⟨Ba, 0, none⟩) :: .pointer (some ⟨Bb, 0, none⟩) :: u3 :: .int .i64 d.1 :: .pointer (some ⟨G, 0, none⟩) :: u6 :: u7 :: u8 :: u9 :: u10 :: u11 :: u12 :: u13 :: u14 :: u15 :: u16 :: u17 :: u18 :: u19 :: u20 :: u21 :: u22 :: u23 :: u24 :: u25 :: u26 :: u27 :: u28 :: u29 :: u30 :: u31 :: u32 :: u33 :: u34 :: u35 :: u36 :: u37 :: u38 :: u39 :: u40 :: u41 :: u42 :: u43 :: u44 :: u45 :: u46 :: u47 :: u48 :: u49 :: u50 :: u51 :: v52 :: v53 :: v54 :: v55 :: v56 :: v57 :: v58 :: v59 :: v60 :: v61 :: v62 :: u63 :: u64 :: u65 :: u66 :: u67 :: u68 :: u69 :: u70 :: u71 :: u72 :: u73 :: u74 :: u75 :: u76 :: u77 :: u78 :: u79 :: u80 :: u81 :: u82 :: u83 :: u84 :: u85 :: u86 :: u87 :: u88 :: u89 :: u90 :: u91 :: u92 :: u93 :: ([] : List Value)).toArray, defers := [] } w3)
    (c : Code) (hc : (Try.f84.body.bind (regionOf 4)) = some c) :
    c.wp Try.prog Q { tmps := (u0 :: .pointer (some ⟨Ba, 0, none⟩) :: .pointer (some ⟨Bb, 0, none⟩) :: u3 :: u4 :: .pointer (some ⟨G, 0, none⟩) :: u6 :: u7 :: u8 :: u9 :: u10 :: u11 :: u12 :: u13 :: u14 :: u15 :: u16 :: u17 :: u18 :: u19 :: u20 :: u21 :: u22 :: u23 :: u24 :: u25 :: u26 :: u27 :: u28 :: u29 :: u30 :: u31 :: u32 :: u33 :: u34 :: u35 :: u36 :: u37 :: u38 :: u39 :: u40 :: u41 :: u42 :: u43 :: u44 :: u45 :: u46 :: u47 :: u48 :: u49 :: u50 :: u51 :: u52 :: u53 :: u54 :: u55 :: u56 :: u57 :: u58 :: u59 :: u60 :: u61 :: u62 :: u63 :: u64 :: u65 :: u66 :: u67 :: u68 :: u69 :: u70 :: u71 :: u72 :: u73 :: u74 :: u75 :: u76 :: u77 :: u78 :: u79 :: u80 :: u81 :: u82 :: u83 :: u84 :: u85 :: u86 :: u87 :: u88 :: u89 :: u90 :: u91 :: u92 :: u93 :: ([] : List Value)).toArray, defers := [] } w1 := by
  simp [Try.f84, regionOf] at hc
  subst hc
  obtain ⟨l1, l2, l3, l4, l5, _⟩ := hS.lo
  obtain ⟨pa, ca, c1, fa, hna, hma, hda, hqa⟩ := hS.ha
  rw [List.length_cons] at c1 hna hda
  obtain ⟨a1, a2, a3, a4 | ⟨ba, oa, rfl, adat⟩⟩ := hda
  · omega
  have a0 := adat 0 (by simp)
  simp only [List.getElem_cons_zero, Nat.zero_mul, Nat.add_zero] at a0
  obtain ⟨ae1, ae2⟩ := a0
  have ag4 : ba < N := hqa _ rfl (by simp)
  generalize hmm : x.length + 1 = m at *
  have hm0 : 0 < m := by omega
  clear hqa adat a3 a1 hmm
  have HS := Lib.hid hS
  have x0 := hS.cu
  have x1 := hS.cv
  have x2 := hS.fu
  have x3 := hS.fv
  clear hS
  refine wp_region_noPanic ?_
  go_region
  refine NoPanic.normal ?_
  refine HS.out.intoA c1 ?_
  intro w3 S3
  exact hQ w3 _ _ _ _ _ _ _ _ _ _ _ S3

end Go.Proofs.Ytdgjjlffdfpkcaa

namespace Go.Proofs.Ytdgjjlffdfpkcaa
open Go.RowKit Go.Shelf
attribute [local go_sem] Oper.semAt_some

set_option maxRecDepth 100000 in
set_option maxHeartbeats 4000000 in
theorem region_b {wr w1 : World} {N Ba Bb G : Nat} {u v : Int} {x y : List Dot} {f : Dot} (hS : Setup wr N Ba Bb G x (f :: y) u v w1) (Q : Exit → Act → World → Prop) (u0 u3 u4 u6 u7 u8 u9 u10 u11 u12 u13 u14 u15 u16 u17 u18 u19 u20 u21 u22 u23 u24 u25 u26 u27 u28 u29 u30 u31 u32 u33 u34 u35 u36 u37 u38 u39 u40 u41 u42 u43 u44 u45 u46 u47 u48 u49 u50 u51 u52 u53 u54 u55 u56 u57 u58 u59 u60 u61 u62 u63 u64 u65 u66 u67 u68 u69 u70 u71 u72 u73 u74 u75 u76 u77 u78 u79 u80 u81 u82 u83 u84 u85 u86 u87 u88 u89 u90 u91 u92 u93 : Value)
    (hQ : ∀ (w3 : World) (v78 v79 v80 v81 v82 v83 v84 v85 v86 v87 v88 : Value), Setup wr N Ba Bb G x y u f.2 w3 → Q .normal { tmps := (u0 :: .pointer (some ⟨Ba, 0, none⟩) :: .pointer (some ⟨Bb, 0, none⟩) :: u3 :: .int .i64 f.1 :: .pointer (some ⟨G, 0, none⟩) :: u6 :: u7 :: u8 :: u9 :: u10 :: u11 :: u12 :: u13 :: u14 :: u15 :: u16 :: u17 :: u18 :: u19 :: u20 :: u21 :: u22 :: u23 :: u24 :: u25 :: u26 :: u27 :: u28 :: u29 :: u30 :: u31 :: u32 :: u33 :: u34 :: u35 :: u36 :: u37 :: u38 :: u39 :: u40 :: u41 :: u42 :: u43 :: u44 :: u45 :: u46 :: u47 :: u48 :: u49 :: u50 :: u51 :: u52 :: u53 :: u54 :: u55 :: u56 :: u57 :: u58 :: u59 :: u60 :: u61 :: u62 :: u63 :: u64 :: u65 :: u66 :: u67 :: u68 :: u69 :: u70 :: u71 :: u72 :: u73 :: u74 :: u75 :: u76 :: u77 :: v78 :: v79 :: v80 :: v81 :: v82 :: v83 :: v84 :: v85 :: v86 :: v87 :: v88 :: u89 :: u90 :: u91 :: u92 :: u93 :: ([] : List Value)).toArray, defers := [] } w3)
    (c : Code) (hc : (Try.f84.body.bind (regionOf 6)) = some c) :
    c.wp Try.prog Q { tmps := (u0 :: .pointer (some ⟨Ba, 0, none⟩) :: .pointer (some ⟨Bb, 0, none⟩) :: u3 :: u4 :: .pointer (some ⟨G, 0, none⟩) :: u6 :: u7 :: u8 :: u9 :: u10 :: u11 :: u12 :: u13 :: u14 :: u15 :: u16 :: u17 :: u18 :: u19 :: u20 :: u21 :: u22 :: u23 :: u24 :: u25 :: u26 :: u27 :: u28 :: u29 :: u30 :: u31 :: u32 :: u33 :: u34 :: u35 :: u36 :: u37 :: u38 :: u39 :: u40 :: u41 :: u42 :: u43 :: u44 :: u45 :: u46 :: u47 :: u48 :: u49 :: u50 :: u51 :: u52 :: u53 :: u54 :: u55 :: u56 :: u57 :: u58 :: u59 :: u60 :: u61 :: u62 :: u63 :: u64 :: u65 :: u66 :: u67 :: u68 :: u69 :: u70 :: u71 :: u72 :: u73 :: u74 :: u75 :: u76 :: u77 :: u78 :: u79 :: u80 :: u81 :: u82 :: u83 :: u84 :: u85 :: u86 :: u87 :: u88 :: u89 :: u90 :: u91 :: u92 :: u93 :: ([] : List Value)).toArray, defers := [] } w1 := by
  simp [Try.f84, regionOf] at hc
  subst hc
  obtain ⟨l1, l2, l3, l4, l5, _⟩ := hS.lo
  obtain ⟨pb, cb, c2, fb, hnb, hmb, hdb, hqb⟩ := hS.hb
  rw [List.length_cons] at c2 hnb hdb
  obtain ⟨b1, b2, b3, b4 | ⟨bb, ob, rfl, bdat⟩⟩ := hdb
  · omega
  have b0 := bdat 0 (by simp)
  simp only [List.getElem_cons_zero, Nat.zero_mul, Nat.add_zero] at b0
  obtain ⟨be1, be2⟩ := b0
  have bg4 : bb < N := hqb _ rfl (by simp)
  generalize hkm : y.length + 1 = k at *
  have hk0 : 0 < k := by omega
  clear hqb bdat b3 b1 hkm
  have HS := Lib.hid hS
  have x0 := hS.cu
  have x1 := hS.cv
  have x2 := hS.fu
  have x3 := hS.fv
  clear hS
  refine wp_region_noPanic ?_
  go_region
  refine NoPanic.normal ?_
  refine HS.out.intoB c2 ?_
  intro w3 S3
  exact hQ w3 _ _ _ _ _ _ _ _ _ _ _ S3

end Go.Proofs.Ytdgjjlffdfpkcaa

namespace Go.Proofs.Ytdgjjlffdfpkcaa
open Go.RowKit Go.Shelf
attribute [local go_sem] Oper.semAt_some

set_option maxRecDepth 100000 in
set_option maxHeartbeats 4000000 in
theorem round_right (l N Ba Bb : Nat) (a b : List Dot) (J : List (Int × Int × Int) → World → Prop) (n : Nat) (hlo : N ≤ Ba ∧ N ≤ Bb ∧ Ba ≠ Bb)
    (HJT : Hid (∀ pre W1 W2, Turned (fun B => B = Ba ∨ B = Bb) W1 W2 → J pre W1 → J pre W2))
    (HY : Hid (∀ pre x rest W1, Vec.merge a b = pre ++ x :: rest → J pre W1 → YieldAt Fence.wide (n - 1) Try.prog l (pairV x) W1 fun e W' =>
      e = .returned (.bool true) ∧ J (pre ++ [x]) W' ∧ W1.heap.size ≤ W'.heap.size ∧ ∀ B, (B < N ∨ B = Ba ∨ B = Bb) → W'.heap[B]? = W1.heap[B]?))
    (wr : World) (pre : List (Int × Int × Int)) (f : Dot) (y : List Dot) (HX : Hid (Vec.merge a b = pre ++ Vec.merge ([] : List Dot) (f :: y))) (hJ : J pre wr) (hA : Held wr N Ba ([] : List Dot)) (hB : Held wr N Bb (f :: y))
    (Q : Exit → Act → World → Prop)
    (hQ : RoundEnd l N Ba Bb a b J pre ((([] : List Dot)).length + ((f :: y)).length) Q)
    (c : Code) (hc : (Try.f84.body.bind loopOf) = some c) (u4 u5 u6 u7 u8 u9 u10 u11 u12 u13 u14 u15 u16 u17 u18 u19 u20 u21 u22 u23 u24 u25 u26 u27 u28 u29 u30 u31 u32 u33 u34 u35 u36 u37 u38 u39 u40 u41 u42 u43 u44 u45 u46 u47 u48 u49 u50 u51 u52 u53 u54 u55 u56 u57 u58 u59 u60 u61 u62 u63 u64 u65 u66 u67 u68 u69 u70 u71 u72 u73 u74 u75 u76 u77 u78 u79 u80 u81 u82 u83 u84 u85 u86 u87 u88 u89 u90 u91 u92 u93 : Value) :
    c.wpIn Fence.wide n Try.prog Q { tmps := (.func (.yield l) #[] #[] :: .pointer (some ⟨Ba, 0, none⟩) :: .pointer (some ⟨Bb, 0, none⟩) :: undef :: u4 :: u5 :: u6 :: u7 :: u8 :: u9 :: u10 :: u11 :: u12 :: u13 :: u14 :: u15 :: u16 :: u17 :: u18 :: u19 :: u20 :: u21 :: u22 :: u23 :: u24 :: u25 :: u26 :: u27 :: u28 :: u29 :: u30 :: u31 :: u32 :: u33 :: u34 :: u35 :: u36 :: u37 :: u38 :: u39 :: u40 :: u41 :: u42 :: u43 :: u44 :: u45 :: u46 :: u47 :: u48 :: u49 :: u50 :: u51 :: u52 :: u53 :: u54 :: u55 :: u56 :: u57 :: u58 :: u59 :: u60 :: u61 :: u62 :: u63 :: u64 :: u65 :: u66 :: u67 :: u68 :: u69 :: u70 :: u71 :: u72 :: u73 :: u74 :: u75 :: u76 :: u77 :: u78 :: u79 :: u80 :: u81 :: u82 :: u83 :: u84 :: u85 :: u86 :: u87 :: u88 :: u89 :: u90 :: u91 :: u92 :: u93 :: ([] : List Value)).toArray, defers := [] } wr := by
  simp only [Try.f84, loopOf, Option.bind_some, Option.some.injEq] at hc
  subst hc
  have hS := Setup.new hA hB hlo
  obtain ⟨pa, ca, hca, hfa, hna, hma, hda, hqa⟩ := hA
  obtain ⟨pb, cb, hcb, hfb, hnb, hmb, hdb, hqb⟩ := hB
  have hE := (Ext.refl wr).alloc (.cells #[.int .i64 0, .int .i64 0] 90)
  have c1 := hE.cell hca
  have c2 := hE.cell hcb
  have f1 := (hE.frozen hca).trans hfa
  have f2 := (hE.frozen hcb).trans hfb
  have x0 := hS.cu
  have x1 := hS.cv
  have x2 := hS.fu
  have x3 := hS.fv
  have hlo2 := hS.lo
  obtain ⟨l1, l2, l3, l4, l5, l6⟩ := hlo2
  clear l6
  rw [List.length_nil] at hca c1
  rw [List.length_cons] at hcb hnb hdb c2
  obtain ⟨b1, b2, b3, b4 | ⟨bb, ob, rfl, bdat⟩⟩ := hdb
  · omega
  have b0 := bdat 0 (by simp)
  simp only [List.getElem_cons_zero, Nat.zero_mul, Nat.add_zero] at b0
  obtain ⟨be1, be2⟩ := b0
  have bc3 := hE.cell be1
  have bc4 := hE.cell be2
  have bg4 : bb < N := hqb _ rfl (by simp)
  generalize hkm : y.length + 1 = k at *
  have hk0 : 0 < k := by omega
  have k1 : ((k : Int) == 0) = false := by rw [beq_eq_false_iff_ne]; omega
  have k2 : decide ((k : Int) > 0) = true := decide_eq_true (by omega)
  have k3 : decide ((0 : Int) < k) = true := decide_eq_true (by omega)
  have k4 : decide (0 < k) = true := decide_eq_true (by omega)
  have HS := Lib.hid hS
  clear hS hqb hqa bdat hda b3 b1 hE
  gi_wp2
  generalize wr.alloc (.cells #[.int .i64 0, .int .i64 0] 90) = w1 at *
  generalize wr.heap.size = G at *
  refine wpIn_wide.2 ?_
  go_quiet (fail)
  gi_wp2
  refine wpIn_wide.2 ?_
  go_quiet (fail)
  gi_wp2
  refine wpIn_wide.2 ?_
  refine region_b ((HS.out.drewN _).drewN _) _ _ _ _ _ _ _ _ _ _ _ _ _ _ _ _ _ _ _ _ _ _ _ _ _ _ _ _ _ _ _ _ _ _ _ _ _ _ _ _ _ _ _ _ _ _ _ _ _ _ _ _ _ _ _ _ _ _ _ _ _ _ _ _ _ _ _ _ _ _ _ _ _ _ _ _ _ _ _ _ _ _ _ _ _ _ _ _ _ _ _ _ ?_ _ (by rfl)
  intro w3 v78 v79 v80 v81 v82 v83 v84 v85 v86 v87 v88 S3
  clear c1 c2 f1 f2 x0 x1 x2 x3 bc3 bc4
  have J3 := HJT.out pre wr w3 S3.turn hJ
  obtain ⟨fn, tmps, assign, body, hy, hR⟩ := HY.out pre (f.1, 0, f.2) (Vec.merge [] y) w3 (by rw [HX.out, Vec.merge_right]) J3
  have y0 := S3.cu
  have y1 := S3.cv
  unfold pairV at hy
  simp only at hy
  gi_wp2
  refine ⟨(fun h => by cases h), ?_⟩
  refine hR.mono ?_
  rintro e W3 ⟨rfl, hJ3, hS3, hB3⟩
  gi_wp2
  have HA3 := S3.ha.kept (hB3 _ (.inr (.inl rfl))) (fun k hk => hB3 k (.inl hk))
  have HB3 := S3.hb.kept (hB3 _ (.inr (.inr rfl))) (fun k hk => hB3 k (.inl hk))
  unfold RoundEnd at hQ
  apply hQ [] y (f.1, 0, f.2) W3
  · rw [HX.out, Vec.merge_right]; simp
  · exact hJ3
  · exact HA3
  · exact HB3
  · first | (simp; done) | (simp; omega) | omega

set_option maxRecDepth 100000 in
set_option maxHeartbeats 4000000 in
theorem round_left (l N Ba Bb : Nat) (a b : List Dot) (J : List (Int × Int × Int) → World → Prop) (n : Nat) (hlo : N ≤ Ba ∧ N ≤ Bb ∧ Ba ≠ Bb)
    (HJT : Hid (∀ pre W1 W2, Turned (fun B => B = Ba ∨ B = Bb) W1 W2 → J pre W1 → J pre W2))
    (HY : Hid (∀ pre x rest W1, Vec.merge a b = pre ++ x :: rest → J pre W1 → YieldAt Fence.wide (n - 1) Try.prog l (pairV x) W1 fun e W' =>
      e = .returned (.bool true) ∧ J (pre ++ [x]) W' ∧ W1.heap.size ≤ W'.heap.size ∧ ∀ B, (B < N ∨ B = Ba ∨ B = Bb) → W'.heap[B]? = W1.heap[B]?))
    (wr : World) (pre : List (Int × Int × Int)) (d : Dot) (x : List Dot) (HX : Hid (Vec.merge a b = pre ++ Vec.merge (d :: x) ([] : List Dot))) (hJ : J pre wr) (hA : Held wr N Ba (d :: x)) (hB : Held wr N Bb ([] : List Dot))
    (Q : Exit → Act → World → Prop)
    (hQ : RoundEnd l N Ba Bb a b J pre (((d :: x)).length + (([] : List Dot)).length) Q)
    (c : Code) (hc : (Try.f84.body.bind loopOf) = some c) (u4 u5 u6 u7 u8 u9 u10 u11 u12 u13 u14 u15 u16 u17 u18 u19 u20 u21 u22 u23 u24 u25 u26 u27 u28 u29 u30 u31 u32 u33 u34 u35 u36 u37 u38 u39 u40 u41 u42 u43 u44 u45 u46 u47 u48 u49 u50 u51 u52 u53 u54 u55 u56 u57 u58 u59 u60 u61 u62 u63 u64 u65 u66 u67 u68 u69 u70 u71 u72 u73 u74 u75 u76 u77 u78 u79 u80 u81 u82 u83 u84 u85 u86 u87 u88 u89 u90 u91 u92 u93 : Value) :
    c.wpIn Fence.wide n Try.prog Q { tmps := (.func (.yield l) #[] #[] :: .pointer (some ⟨Ba, 0, none⟩) :: .pointer (some ⟨Bb, 0, none⟩) :: undef :: u4 :: u5 :: u6 :: u7 :: u8 :: u9 :: u10 :: u11 :: u12 :: u13 :: u14 :: u15 :: u16 :: u17 :: u18 :: u19 :: u20 :: u21 :: u22 :: u23 :: u24 :: u25 :: u26 :: u27 :: u28 :: u29 :: u30 :: u31 :: u32 :: u33 :: u34 :: u35 :: u36 :: u37 :: u38 :: u39 :: u40 :: u41 :: u42 :: u43 :: u44 :: u45 :: u46 :: u47 :: u48 :: u49 :: u50 :: u51 :: u52 :: u53 :: u54 :: u55 :: u56 :: u57 :: u58 :: u59 :: u60 :: u61 :: u62 :: u63 :: u64 :: u65 :: u66 :: u67 :: u68 :: u69 :: u70 :: u71 :: u72 :: u73 :: u74 :: u75 :: u76 :: u77 :: u78 :: u79 :: u80 :: u81 :: u82 :: u83 :: u84 :: u85 :: u86 :: u87 :: u88 :: u89 :: u90 :: u91 :: u92 :: u93 :: ([] : List Value)).toArray, defers := [] } wr := by
  simp only [Try.f84, loopOf, Option.bind_some, Option.some.injEq] at hc
  subst hc
  have hS := Setup.new hA hB hlo
  obtain ⟨pa, ca, hca, hfa, hna, hma, hda, hqa⟩ := hA
  obtain ⟨pb, cb, hcb, hfb, hnb, hmb, hdb, hqb⟩ := hB
  have hE := (Ext.refl wr).alloc (.cells #[.int .i64 0, .int .i64 0] 90)
  have c1 := hE.cell hca
  have c2 := hE.cell hcb
  have f1 := (hE.frozen hca).trans hfa
  have f2 := (hE.frozen hcb).trans hfb
  have x0 := hS.cu
  have x1 := hS.cv
  have x2 := hS.fu
  have x3 := hS.fv
  have hlo2 := hS.lo
  obtain ⟨l1, l2, l3, l4, l5, l6⟩ := hlo2
  clear l6
  rw [List.length_nil] at hcb c2
  rw [List.length_cons] at hca hna hda c1
  obtain ⟨a1, a2, a3, a4 | ⟨ba, oa, rfl, adat⟩⟩ := hda
  · omega
  have a0 := adat 0 (by simp)
  simp only [List.getElem_cons_zero, Nat.zero_mul, Nat.add_zero] at a0
  obtain ⟨ae1, ae2⟩ := a0
  have ac3 := hE.cell ae1
  have ac4 := hE.cell ae2
  have ag4 : ba < N := hqa _ rfl (by simp)
  generalize hmm : x.length + 1 = m at *
  have hm0 : 0 < m := by omega
  have m1 : ((m : Int) == 0) = false := by rw [beq_eq_false_iff_ne]; omega
  have m2 : decide ((m : Int) > 0) = true := decide_eq_true (by omega)
  have m3 : decide ((0 : Int) < m) = true := decide_eq_true (by omega)
  have m4 : decide (0 < m) = true := decide_eq_true (by omega)
  have HS := Lib.hid hS
  clear hS hqb hqa adat hdb a3 a1 hE
  gi_wp2
  generalize wr.alloc (.cells #[.int .i64 0, .int .i64 0] 90) = w1 at *
  generalize wr.heap.size = G at *
  refine wpIn_wide.2 ?_
  go_quiet (fail)
  gi_wp2
  refine wpIn_wide.2 ?_
  refine region_a (HS.out.drewN _) _ _ _ _ _ _ _ _ _ _ _ _ _ _ _ _ _ _ _ _ _ _ _ _ _ _ _ _ _ _ _ _ _ _ _ _ _ _ _ _ _ _ _ _ _ _ _ _ _ _ _ _ _ _ _ _ _ _ _ _ _ _ _ _ _ _ _ _ _ _ _ _ _ _ _ _ _ _ _ _ _ _ _ _ _ _ _ _ _ _ _ _ ?_ _ (by rfl)
  intro w3 v52 v53 v54 v55 v56 v57 v58 v59 v60 v61 v62 S3
  clear c1 c2 f1 f2 x0 x1 x2 x3 ac3 ac4
  have J3 := HJT.out pre wr w3 S3.turn hJ
  obtain ⟨fn, tmps, assign, body, hy, hR⟩ := HY.out pre (d.1, d.2, 0) (Vec.merge x []) w3 (by rw [HX.out, Vec.merge_left]) J3
  have y0 := S3.cu
  have y1 := S3.cv
  unfold pairV at hy
  simp only at hy
  gi_wp2
  refine ⟨(fun h => by cases h), ?_⟩
  refine hR.mono ?_
  rintro e W3 ⟨rfl, hJ3, hS3, hB3⟩
  gi_wp2
  have HA3 := S3.ha.kept (hB3 _ (.inr (.inl rfl))) (fun k hk => hB3 k (.inl hk))
  have HB3 := S3.hb.kept (hB3 _ (.inr (.inr rfl))) (fun k hk => hB3 k (.inl hk))
  unfold RoundEnd at hQ
  apply hQ x [] (d.1, d.2, 0) W3
  · rw [HX.out, Vec.merge_left]; simp
  · exact hJ3
  · exact HA3
  · exact HB3
  · first | (simp; done) | (simp; omega) | omega

end Go.Proofs.Ytdgjjlffdfpkcaa

namespace Go.Proofs.Ytdgjjlffdfpkcaa
open Go.RowKit Go.Shelf
attribute [local go_sem] Oper.semAt_some

set_option maxRecDepth 100000 in
set_option maxHeartbeats 4000000 in
theorem round_lt (l N Ba Bb : Nat) (a b : List Dot) (J : List (Int × Int × Int) → World → Prop) (n : Nat) (hlo : N ≤ Ba ∧ N ≤ Bb ∧ Ba ≠ Bb)
    (HJT : Hid (∀ pre W1 W2, Turned (fun B => B = Ba ∨ B = Bb) W1 W2 → J pre W1 → J pre W2))
    (HY : Hid (∀ pre x rest W1, Vec.merge a b = pre ++ x :: rest → J pre W1 → YieldAt Fence.wide (n - 1) Try.prog l (pairV x) W1 fun e W' =>
      e = .returned (.bool true) ∧ J (pre ++ [x]) W' ∧ W1.heap.size ≤ W'.heap.size ∧ ∀ B, (B < N ∨ B = Ba ∨ B = Bb) → W'.heap[B]? = W1.heap[B]?))
    (wr : World) (pre : List (Int × Int × Int)) (d f : Dot) (x y : List Dot) (HX : Hid (Vec.merge a b = pre ++ Vec.merge (d :: x) (f :: y))) (hJ : J pre wr) (hA : Held wr N Ba (d :: x)) (hB : Held wr N Bb (f :: y)) (ho : d.1 < f.1)
    (Q : Exit → Act → World → Prop)
    (hQ : RoundEnd l N Ba Bb a b J pre (((d :: x)).length + ((f :: y)).length) Q)
    (c : Code) (hc : (Try.f84.body.bind loopOf) = some c) (u4 u5 u6 u7 u8 u9 u10 u11 u12 u13 u14 u15 u16 u17 u18 u19 u20 u21 u22 u23 u24 u25 u26 u27 u28 u29 u30 u31 u32 u33 u34 u35 u36 u37 u38 u39 u40 u41 u42 u43 u44 u45 u46 u47 u48 u49 u50 u51 u52 u53 u54 u55 u56 u57 u58 u59 u60 u61 u62 u63 u64 u65 u66 u67 u68 u69 u70 u71 u72 u73 u74 u75 u76 u77 u78 u79 u80 u81 u82 u83 u84 u85 u86 u87 u88 u89 u90 u91 u92 u93 : Value) :
    c.wpIn Fence.wide n Try.prog Q { tmps := (.func (.yield l) #[] #[] :: .pointer (some ⟨Ba, 0, none⟩) :: .pointer (some ⟨Bb, 0, none⟩) :: undef :: u4 :: u5 :: u6 :: u7 :: u8 :: u9 :: u10 :: u11 :: u12 :: u13 :: u14 :: u15 :: u16 :: u17 :: u18 :: u19 :: u20 :: u21 :: u22 :: u23 :: u24 :: u25 :: u26 :: u27 :: u28 :: u29 :: u30 :: u31 :: u32 :: u33 :: u34 :: u35 :: u36 :: u37 :: u38 :: u39 :: u40 :: u41 :: u42 :: u43 :: u44 :: u45 :: u46 :: u47 :: u48 :: u49 :: u50 :: u51 :: u52 :: u53 :: u54 :: u55 :: u56 :: u57 :: u58 :: u59 :: u60 :: u61 :: u62 :: u63 :: u64 :: u65 :: u66 :: u67 :: u68 :: u69 :: u70 :: u71 :: u72 :: u73 :: u74 :: u75 :: u76 :: u77 :: u78 :: u79 :: u80 :: u81 :: u82 :: u83 :: u84 :: u85 :: u86 :: u87 :: u88 :: u89 :: u90 :: u91 :: u92 :: u93 :: ([] : List Value)).toArray, defers := [] } wr := by
  simp only [Try.f84, loopOf, Option.bind_some, Option.some.injEq] at hc
  subst hc
  have hS := Setup.new hA hB hlo
  obtain ⟨pa, ca, hca, hfa, hna, hma, hda, hqa⟩ := hA
  obtain ⟨pb, cb, hcb, hfb, hnb, hmb, hdb, hqb⟩ := hB
  have hE := (Ext.refl wr).alloc (.cells #[.int .i64 0, .int .i64 0] 90)
  have c1 := hE.cell hca
  have c2 := hE.cell hcb
  have f1 := (hE.frozen hca).trans hfa
  have f2 := (hE.frozen hcb).trans hfb
  have x0 := hS.cu
  have x1 := hS.cv
  have x2 := hS.fu
  have x3 := hS.fv
  have hlo2 := hS.lo
  obtain ⟨l1, l2, l3, l4, l5, l6⟩ := hlo2
  clear l6
  rw [List.length_cons] at hca hna hda c1
  obtain ⟨a1, a2, a3, a4 | ⟨ba, oa, rfl, adat⟩⟩ := hda
  · omega
  have a0 := adat 0 (by simp)
  simp only [List.getElem_cons_zero, Nat.zero_mul, Nat.add_zero] at a0
  obtain ⟨ae1, ae2⟩ := a0
  have ac3 := hE.cell ae1
  have ac4 := hE.cell ae2
  have ag4 : ba < N := hqa _ rfl (by simp)
  generalize hmm : x.length + 1 = m at *
  have hm0 : 0 < m := by omega
  have m1 : ((m : Int) == 0) = false := by rw [beq_eq_false_iff_ne]; omega
  have m2 : decide ((m : Int) > 0) = true := decide_eq_true (by omega)
  have m3 : decide ((0 : Int) < m) = true := decide_eq_true (by omega)
  have m4 : decide (0 < m) = true := decide_eq_true (by omega)
  rw [List.length_cons] at hcb hnb hdb c2
  obtain ⟨b1, b2, b3, b4 | ⟨bb, ob, rfl, bdat⟩⟩ := hdb
  · omega
  have b0 := bdat 0 (by simp)
  simp only [List.getElem_cons_zero, Nat.zero_mul, Nat.add_zero] at b0
  obtain ⟨be1, be2⟩ := b0
  have bc3 := hE.cell be1
  have bc4 := hE.cell be2
  have bg4 : bb < N := hqb _ rfl (by simp)
  generalize hkm : y.length + 1 = k at *
  have hk0 : 0 < k := by omega
  have k1 : ((k : Int) == 0) = false := by rw [beq_eq_false_iff_ne]; omega
  have k2 : decide ((k : Int) > 0) = true := decide_eq_true (by omega)
  have k3 : decide ((0 : Int) < k) = true := decide_eq_true (by omega)
  have k4 : decide (0 < k) = true := decide_eq_true (by omega)
  have o1 : decide (d.1 < f.1) = true := decide_eq_true ho
  have HS := Lib.hid hS
  clear hS hqb hqa adat bdat a3 a1 b3 b1 hE
  gi_wp2
  generalize wr.alloc (.cells #[.int .i64 0, .int .i64 0] 90) = w1 at *
  generalize wr.heap.size = G at *
  refine wpIn_wide.2 ?_
  go_quiet (fail)
  gi_wp2
  refine wpIn_wide.2 ?_
  refine region_a (HS.out.drewN _) _ _ _ _ _ _ _ _ _ _ _ _ _ _ _ _ _ _ _ _ _ _ _ _ _ _ _ _ _ _ _ _ _ _ _ _ _ _ _ _ _ _ _ _ _ _ _ _ _ _ _ _ _ _ _ _ _ _ _ _ _ _ _ _ _ _ _ _ _ _ _ _ _ _ _ _ _ _ _ _ _ _ _ _ _ _ _ _ _ _ _ _ ?_ _ (by rfl)
  intro w3 v52 v53 v54 v55 v56 v57 v58 v59 v60 v61 v62 S3
  clear c1 c2 f1 f2 x0 x1 x2 x3 ac3 ac4 bc3 bc4
  have J3 := HJT.out pre wr w3 S3.turn hJ
  obtain ⟨fn, tmps, assign, body, hy, hR⟩ := HY.out pre (d.1, d.2, 0) (Vec.merge x (f :: y)) w3 (by rw [HX.out, Vec.merge_lt _ _ ho]) J3
  have y0 := S3.cu
  have y1 := S3.cv
  unfold pairV at hy
  simp only at hy
  gi_wp2
  refine ⟨(fun h => by cases h), ?_⟩
  refine hR.mono ?_
  rintro e W3 ⟨rfl, hJ3, hS3, hB3⟩
  gi_wp2
  have HA3 := S3.ha.kept (hB3 _ (.inr (.inl rfl))) (fun k hk => hB3 k (.inl hk))
  have HB3 := S3.hb.kept (hB3 _ (.inr (.inr rfl))) (fun k hk => hB3 k (.inl hk))
  unfold RoundEnd at hQ
  apply hQ x (f :: y) (d.1, d.2, 0) W3
  · rw [HX.out, Vec.merge_lt _ _ ho]; simp
  · exact hJ3
  · exact HA3
  · exact HB3
  · first | (simp; done) | (simp; omega) | omega

set_option maxRecDepth 100000 in
set_option maxHeartbeats 4000000 in
theorem round_gt (l N Ba Bb : Nat) (a b : List Dot) (J : List (Int × Int × Int) → World → Prop) (n : Nat) (hlo : N ≤ Ba ∧ N ≤ Bb ∧ Ba ≠ Bb)
    (HJT : Hid (∀ pre W1 W2, Turned (fun B => B = Ba ∨ B = Bb) W1 W2 → J pre W1 → J pre W2))
    (HY : Hid (∀ pre x rest W1, Vec.merge a b = pre ++ x :: rest → J pre W1 → YieldAt Fence.wide (n - 1) Try.prog l (pairV x) W1 fun e W' =>
      e = .returned (.bool true) ∧ J (pre ++ [x]) W' ∧ W1.heap.size ≤ W'.heap.size ∧ ∀ B, (B < N ∨ B = Ba ∨ B = Bb) → W'.heap[B]? = W1.heap[B]?))
    (wr : World) (pre : List (Int × Int × Int)) (d f : Dot) (x y : List Dot) (HX : Hid (Vec.merge a b = pre ++ Vec.merge (d :: x) (f :: y))) (hJ : J pre wr) (hA : Held wr N Ba (d :: x)) (hB : Held wr N Bb (f :: y)) (ho : f.1 < d.1)
    (Q : Exit → Act → World → Prop)
    (hQ : RoundEnd l N Ba Bb a b J pre (((d :: x)).length + ((f :: y)).length) Q)
    (c : Code) (hc : (Try.f84.body.bind loopOf) = some c) (u4 u5 u6 u7 u8 u9 u10 u11 u12 u13 u14 u15 u16 u17 u18 u19 u20 u21 u22 u23 u24 u25 u26 u27 u28 u29 u30 u31 u32 u33 u34 u35 u36 u37 u38 u39 u40 u41 u42 u43 u44 u45 u46 u47 u48 u49 u50 u51 u52 u53 u54 u55 u56 u57 u58 u59 u60 u61 u62 u63 u64 u65 u66 u67 u68 u69 u70 u71 u72 u73 u74 u75 u76 u77 u78 u79 u80 u81 u82 u83 u84 u85 u86 u87 u88 u89 u90 u91 u92 u93 : Value) :
    c.wpIn Fence.wide n Try.prog Q { tmps := (.func (.yield l) #[] #[] :: .pointer (some ⟨Ba, 0, none⟩) :: .pointer (some ⟨Bb, 0, none⟩) :: undef :: u4 :: u5 :: u6 :: u7 :: u8 :: u9 :: u10 :: u11 :: u12 :: u13 :: u14 :: u15 :: u16 :: u17 :: u18 :: u19 :: u20 :: u21 :: u22 :: u23 :: u24 :: u25 :: u26 :: u27 :: u28 :: u29 :: u30 :: u31 :: u32 :: u33 :: u34 :: u35 :: u36 :: u37 :: u38 :: u39 :: u40 :: u41 :: u42 :: u43 :: u44 :: u45 :: u46 :: u47 :: u48 :: u49 :: u50 :: u51 :: u52 :: u53 :: u54 :: u55 :: u56 :: u57 :: u58 :: u59 :: u60 :: u61 :: u62 :: u63 :: u64 :: u65 :: u66 :: u67 :: u68 :: u69 :: u70 :: u71 :: u72 :: u73 :: u74 :: u75 :: u76 :: u77 :: u78 :: u79 :: u80 :: u81 :: u82 :: u83 :: u84 :: u85 :: u86 :: u87 :: u88 :: u89 :: u90 :: u91 :: u92 :: u93 :: ([] : List Value)).toArray, defers := [] } wr := by
  simp only [Try.f84, loopOf, Option.bind_some, Option.some.injEq] at hc
  subst hc
  have hS := Setup.new hA hB hlo
  obtain ⟨pa, ca, hca, hfa, hna, hma, hda, hqa⟩ := hA
  obtain ⟨pb, cb, hcb, hfb, hnb, hmb, hdb, hqb⟩ := hB
  have hE := (Ext.refl wr).alloc (.cells #[.int .i64 0, .int .i64 0] 90)
  have c1 := hE.cell hca
  have c2 := hE.cell hcb
  have f1 := (hE.frozen hca).trans hfa
  have f2 := (hE.frozen hcb).trans hfb
  have x0 := hS.cu
  have x1 := hS.cv
  have x2 := hS.fu
  have x3 := hS.fv
  have hlo2 := hS.lo
  obtain ⟨l1, l2, l3, l4, l5, l6⟩ := hlo2
  clear l6
  rw [List.length_cons] at hca hna hda c1
  obtain ⟨a1, a2, a3, a4 | ⟨ba, oa, rfl, adat⟩⟩ := hda
  · omega
  have a0 := adat 0 (by simp)
  simp only [List.getElem_cons_zero, Nat.zero_mul, Nat.add_zero] at a0
  obtain ⟨ae1, ae2⟩ := a0
  have ac3 := hE.cell ae1
  have ac4 := hE.cell ae2
  have ag4 : ba < N := hqa _ rfl (by simp)
  generalize hmm : x.length + 1 = m at *
  have hm0 : 0 < m := by omega
  have m1 : ((m : Int) == 0) = false := by rw [beq_eq_false_iff_ne]; omega
  have m2 : decide ((m : Int) > 0) = true := decide_eq_true (by omega)
  have m3 : decide ((0 : Int) < m) = true := decide_eq_true (by omega)
  have m4 : decide (0 < m) = true := decide_eq_true (by omega)
  rw [List.length_cons] at hcb hnb hdb c2
  obtain ⟨b1, b2, b3, b4 | ⟨bb, ob, rfl, bdat⟩⟩ := hdb
  · omega
  have b0 := bdat 0 (by simp)
  simp only [List.getElem_cons_zero, Nat.zero_mul, Nat.add_zero] at b0
  obtain ⟨be1, be2⟩ := b0
  have bc3 := hE.cell be1
  have bc4 := hE.cell be2
  have bg4 : bb < N := hqb _ rfl (by simp)
  generalize hkm : y.length + 1 = k at *
  have hk0 : 0 < k := by omega
  have k1 : ((k : Int) == 0) = false := by rw [beq_eq_false_iff_ne]; omega
  have k2 : decide ((k : Int) > 0) = true := decide_eq_true (by omega)
  have k3 : decide ((0 : Int) < k) = true := decide_eq_true (by omega)
  have k4 : decide (0 < k) = true := decide_eq_true (by omega)
  have o1 : decide (d.1 < f.1) = false := decide_eq_false (by omega)
  have o2 : decide (f.1 < d.1) = true := decide_eq_true ho
  have HS := Lib.hid hS
  clear hS hqb hqa adat bdat a3 a1 b3 b1 hE
  gi_wp2
  generalize wr.alloc (.cells #[.int .i64 0, .int .i64 0] 90) = w1 at *
  generalize wr.heap.size = G at *
  refine wpIn_wide.2 ?_
  go_quiet (fail)
  gi_wp2
  refine wpIn_wide.2 ?_
  go_quiet (fail)
  gi_wp2
  refine wpIn_wide.2 ?_
  refine region_b ((HS.out.drewN _).drewN _) _ _ _ _ _ _ _ _ _ _ _ _ _ _ _ _ _ _ _ _ _ _ _ _ _ _ _ _ _ _ _ _ _ _ _ _ _ _ _ _ _ _ _ _ _ _ _ _ _ _ _ _ _ _ _ _ _ _ _ _ _ _ _ _ _ _ _ _ _ _ _ _ _ _ _ _ _ _ _ _ _ _ _ _ _ _ _ _ _ _ _ _ ?_ _ (by rfl)
  intro w3 v78 v79 v80 v81 v82 v83 v84 v85 v86 v87 v88 S3
  clear c1 c2 f1 f2 x0 x1 x2 x3 ac3 ac4 bc3 bc4
  have J3 := HJT.out pre wr w3 S3.turn hJ
  obtain ⟨fn, tmps, assign, body, hy, hR⟩ := HY.out pre (f.1, 0, f.2) (Vec.merge (d :: x) y) w3 (by rw [HX.out, Vec.merge_gt _ _ ho]) J3
  have y0 := S3.cu
  have y1 := S3.cv
  unfold pairV at hy
  simp only at hy
  gi_wp2
  refine ⟨(fun h => by cases h), ?_⟩
  refine hR.mono ?_
  rintro e W3 ⟨rfl, hJ3, hS3, hB3⟩
  gi_wp2
  have HA3 := S3.ha.kept (hB3 _ (.inr (.inl rfl))) (fun k hk => hB3 k (.inl hk))
  have HB3 := S3.hb.kept (hB3 _ (.inr (.inr rfl))) (fun k hk => hB3 k (.inl hk))
  unfold RoundEnd at hQ
  apply hQ (d :: x) y (f.1, 0, f.2) W3
  · rw [HX.out, Vec.merge_gt _ _ ho]; simp
  · exact hJ3
  · exact HA3
  · exact HB3
  · first | (simp; done) | (simp; omega) | omega

end Go.Proofs.Ytdgjjlffdfpkcaa

namespace Go.Proofs.Ytdgjjlffdfpkcaa
open Go.RowKit Go.Shelf
attribute [local go_sem] Oper.semAt_some

set_option maxRecDepth 100000 in
set_option maxHeartbeats 4000000 in
theorem region_ab {wr w1 : World} {N Ba Bb G : Nat} {u v : Int} {x y : List Dot} {d f : Dot} (hS : Setup wr N Ba Bb G (d :: x) (f :: y) u v w1) (Q : Exit → Act → World → Prop) (u0 u3 u4 u6 u7 u8 u9 u10 u11 u12 u13 u14 u15 u16 u17 u18 u19 u20 u21 u22 u23 u24 u25 u26 u27 u28 u29 u30 u31 u32 u33 u34 u35 u36 u37 u38 u39 u40 u41 u42 u43 u44 u45 u46 u47 u48 u49 u50 u51 u52 u53 u54 u55 u56 u57 u58 u59 u60 u61 u62 u63 u64 u65 u66 u67 u68 u69 u70 u71 u72 u73 u74 u75 u76 u77 u78 u79 u80 u81 u82 u83 u84 u85 u86 u87 u88 u89 u90 u91 u92 u93 : Value)
    (hQ : ∀ (w3 : World) (v15 v16 v17 v18 v19 v20 v21 v22 v23 v24 v25 v26 v27 v28 v29 v30 v31 : Value), Setup wr N Ba Bb G x y d.2 f.2 w3 → Q .normal { tmps := (u0 :: .pointer (some ⟨Ba, 0, none⟩) :: .pointer (some ⟨Bb, 0, none⟩) :: u3 :: .int .i64 d.1 :: .pointer (some ⟨G, 0, none⟩) :: u6 :: u7 :: u8 :: u9 :: u10 :: u11 :: u12 :: u13 :: u14 :: v15 :: v16 :: v17 :: v18 :: v19 :: v20 :: v21 :: v22 :: v23 :: v24 :: v25 :: v26 :: v27 :: v28 :: v29 :: v30 :: v31 :: u32 :: u33 :: u34 :: u35 :: u36 :: u37 :: u38 :: u39 :: u40 :: u41 :: u42 :: u43 :: u44 :: u45 :: u46 :: u47 :: u48 :: u49 :: u50 :: u51 :: u52 :: u53 :: u54 :: u55 :: u56 :: u57 :: u58 :: u59 :: u60 :: u61 :: u62 :: u63 :: u64 :: u65 :: u66 :: u67 :: u68 :: u69 :: u70 :: u71 :: u72 :: u73 :: u74 :: u75 :: u76 :: u77 :: u78 :: u79 :: u80 :: u81 :: u82 :: u83 :: u84 :: u85 :: u86 :: u87 :: u88 :: u89 :: u90 :: u91 :: u92 :: u93 :: ([] : List Value)).toArray, defers := [] } w3)
    (c : Code) (hc : (Try.f84.body.bind (regionOf 2)) = some c) :
    c.wp Try.prog Q { tmps := (u0 :: .pointer (some ⟨Ba, 0, none⟩) :: .pointer (some ⟨Bb, 0, none⟩) :: u3 :: u4 :: .pointer (some ⟨G, 0, none⟩) :: u6 :: u7 :: u8 :: u9 :: u10 :: u11 :: u12 :: u13 :: u14 :: u15 :: u16 :: u17 :: u18 :: u19 :: u20 :: u21 :: u22 :: u23 :: u24 :: u25 :: u26 :: u27 :: u28 :: u29 :: u30 :: u31 :: u32 :: u33 :: u34 :: u35 :: u36 :: u37 :: u38 :: u39 :: u40 :: u41 :: u42 :: u43 :: u44 :: u45 :: u46 :: u47 :: u48 :: u49 :: u50 :: u51 :: u52 :: u53 :: u54 :: u55 :: u56 :: u57 :: u58 :: u59 :: u60 :: u61 :: u62 :: u63 :: u64 :: u65 :: u66 :: u67 :: u68 :: u69 :: u70 :: u71 :: u72 :: u73 :: u74 :: u75 :: u76 :: u77 :: u78 :: u79 :: u80 :: u81 :: u82 :: u83 :: u84 :: u85 :: u86 :: u87 :: u88 :: u89 :: u90 :: u91 :: u92 :: u93 :: ([] : List Value)).toArray, defers := [] } w1 := by
  simp [Try.f84, regionOf] at hc
  subst hc
  obtain ⟨l1, l2, l3, l4, l5, _⟩ := hS.lo
  obtain ⟨pa, ca, c1, fa, hna, hma, hda, hqa⟩ := hS.ha
  rw [List.length_cons] at c1 hna hda
  obtain ⟨a1, a2, a3, a4 | ⟨ba, oa, rfl, adat⟩⟩ := hda
  · omega
  have a0 := adat 0 (by simp)
  simp only [List.getElem_cons_zero, Nat.zero_mul, Nat.add_zero] at a0
  obtain ⟨ae1, ae2⟩ := a0
  have ag4 : ba < N := hqa _ rfl (by simp)
  generalize hmm : x.length + 1 = m at *
  have hm0 : 0 < m := by omega
  clear hqa adat a3 a1 hmm
  obtain ⟨pb, cb, c2, fb, hnb, hmb, hdb, hqb⟩ := hS.hb
  rw [List.length_cons] at c2 hnb hdb
  obtain ⟨b1, b2, b3, b4 | ⟨bb, ob, rfl, bdat⟩⟩ := hdb
  · omega
  have b0 := bdat 0 (by simp)
  simp only [List.getElem_cons_zero, Nat.zero_mul, Nat.add_zero] at b0
  obtain ⟨be1, be2⟩ := b0
  have bg4 : bb < N := hqb _ rfl (by simp)
  generalize hkm : y.length + 1 = k at *
  have hk0 : 0 < k := by omega
  clear hqb bdat b3 b1 hkm
  have HS := Lib.hid hS
  have x0 := hS.cu
  have x1 := hS.cv
  have x2 := hS.fu
  have x3 := hS.fv
  clear hS
  refine wp_region_noPanic ?_
  go_region
  refine NoPanic.normal ?_
  refine HS.out.intoE c1 c2 ?_
  intro w3 S3
  exact hQ w3 _ _ _ _ _ _ _ _ _ _ _ _ _ _ _ _ _ S3

end Go.Proofs.Ytdgjjlffdfpkcaa

namespace Go.Proofs.Ytdgjjlffdfpkcaa
open Go.RowKit Go.Shelf
attribute [local go_sem] Oper.semAt_some

set_option maxRecDepth 100000 in
set_option maxHeartbeats 4000000 in
theorem round_eq (l N Ba Bb : Nat) (a b : List Dot) (J : List (Int × Int × Int) → World → Prop) (n : Nat) (hlo : N ≤ Ba ∧ N ≤ Bb ∧ Ba ≠ Bb)
    (HJT : Hid (∀ pre W1 W2, Turned (fun B => B = Ba ∨ B = Bb) W1 W2 → J pre W1 → J pre W2))
    (HY : Hid (∀ pre x rest W1, Vec.merge a b = pre ++ x :: rest → J pre W1 → YieldAt Fence.wide (n - 1) Try.prog l (pairV x) W1 fun e W' =>
      e = .returned (.bool true) ∧ J (pre ++ [x]) W' ∧ W1.heap.size ≤ W'.heap.size ∧ ∀ B, (B < N ∨ B = Ba ∨ B = Bb) → W'.heap[B]? = W1.heap[B]?))
    (wr : World) (pre : List (Int × Int × Int)) (d f : Dot) (x y : List Dot) (HX : Hid (Vec.merge a b = pre ++ Vec.merge (d :: x) (f :: y))) (hJ : J pre wr) (hA : Held wr N Ba (d :: x)) (hB : Held wr N Bb (f :: y)) (ho : d.1 = f.1)
    (Q : Exit → Act → World → Prop)
    (hQ : RoundEnd l N Ba Bb a b J pre (((d :: x)).length + ((f :: y)).length) Q)
    (c : Code) (hc : (Try.f84.body.bind loopOf) = some c) (u4 u5 u6 u7 u8 u9 u10 u11 u12 u13 u14 u15 u16 u17 u18 u19 u20 u21 u22 u23 u24 u25 u26 u27 u28 u29 u30 u31 u32 u33 u34 u35 u36 u37 u38 u39 u40 u41 u42 u43 u44 u45 u46 u47 u48 u49 u50 u51 u52 u53 u54 u55 u56 u57 u58 u59 u60 u61 u62 u63 u64 u65 u66 u67 u68 u69 u70 u71 u72 u73 u74 u75 u76 u77 u78 u79 u80 u81 u82 u83 u84 u85 u86 u87 u88 u89 u90 u91 u92 u93 : Value) :
    c.wpIn Fence.wide n Try.prog Q { tmps := (.func (.yield l) #[] #[] :: .pointer (some ⟨Ba, 0, none⟩) :: .pointer (some ⟨Bb, 0, none⟩) :: undef :: u4 :: u5 :: u6 :: u7 :: u8 :: u9 :: u10 :: u11 :: u12 :: u13 :: u14 :: u15 :: u16 :: u17 :: u18 :: u19 :: u20 :: u21 :: u22 :: u23 :: u24 :: u25 :: u26 :: u27 :: u28 :: u29 :: u30 :: u31 :: u32 :: u33 :: u34 :: u35 :: u36 :: u37 :: u38 :: u39 :: u40 :: u41 :: u42 :: u43 :: u44 :: u45 :: u46 :: u47 :: u48 :: u49 :: u50 :: u51 :: u52 :: u53 :: u54 :: u55 :: u56 :: u57 :: u58 :: u59 :: u60 :: u61 :: u62 :: u63 :: u64 :: u65 :: u66 :: u67 :: u68 :: u69 :: u70 :: u71 :: u72 :: u73 :: u74 :: u75 :: u76 :: u77 :: u78 :: u79 :: u80 :: u81 :: u82 :: u83 :: u84 :: u85 :: u86 :: u87 :: u88 :: u89 :: u90 :: u91 :: u92 :: u93 :: ([] : List Value)).toArray, defers := [] } wr := by
  simp only [Try.f84, loopOf, Option.bind_some, Option.some.injEq] at hc
  subst hc
  have hS := Setup.new hA hB hlo
  obtain ⟨pa, ca, hca, hfa, hna, hma, hda, hqa⟩ := hA
  obtain ⟨pb, cb, hcb, hfb, hnb, hmb, hdb, hqb⟩ := hB
  have hE := (Ext.refl wr).alloc (.cells #[.int .i64 0, .int .i64 0] 90)
  have c1 := hE.cell hca
  have c2 := hE.cell hcb
  have f1 := (hE.frozen hca).trans hfa
  have f2 := (hE.frozen hcb).trans hfb
  have x0 := hS.cu
  have x1 := hS.cv
  have x2 := hS.fu
  have x3 := hS.fv
  have hlo2 := hS.lo
  obtain ⟨l1, l2, l3, l4, l5, l6⟩ := hlo2
  clear l6
  rw [List.length_cons] at hca hna hda c1
  obtain ⟨a1, a2, a3, a4 | ⟨ba, oa, rfl, adat⟩⟩ := hda
  · omega
  have a0 := adat 0 (by simp)
  simp only [List.getElem_cons_zero, Nat.zero_mul, Nat.add_zero] at a0
  obtain ⟨ae1, ae2⟩ := a0
  have ac3 := hE.cell ae1
  have ac4 := hE.cell ae2
  have ag4 : ba < N := hqa _ rfl (by simp)
  generalize hmm : x.length + 1 = m at *
  have hm0 : 0 < m := by omega
  have m1 : ((m : Int) == 0) = false := by rw [beq_eq_false_iff_ne]; omega
  have m2 : decide ((m : Int) > 0) = true := decide_eq_true (by omega)
  have m3 : decide ((0 : Int) < m) = true := decide_eq_true (by omega)
  have m4 : decide (0 < m) = true := decide_eq_true (by omega)
  rw [List.length_cons] at hcb hnb hdb c2
  obtain ⟨b1, b2, b3, b4 | ⟨bb, ob, rfl, bdat⟩⟩ := hdb
  · omega
  have b0 := bdat 0 (by simp)
  simp only [List.getElem_cons_zero, Nat.zero_mul, Nat.add_zero] at b0
  obtain ⟨be1, be2⟩ := b0
  have bc3 := hE.cell be1
  have bc4 := hE.cell be2
  have bg4 : bb < N := hqb _ rfl (by simp)
  generalize hkm : y.length + 1 = k at *
  have hk0 : 0 < k := by omega
  have k1 : ((k : Int) == 0) = false := by rw [beq_eq_false_iff_ne]; omega
  have k2 : decide ((k : Int) > 0) = true := decide_eq_true (by omega)
  have k3 : decide ((0 : Int) < k) = true := decide_eq_true (by omega)
  have k4 : decide (0 < k) = true := decide_eq_true (by omega)
  have o1 : decide (d.1 < f.1) = false := decide_eq_false (by omega)
  have o2 : decide (f.1 < d.1) = false := decide_eq_false (by omega)
  have HO := Lib.hid ho
  have HS := Lib.hid hS
  clear ho hS hqb hqa adat bdat a3 a1 b3 b1 hE
  gi_wp2
  generalize wr.alloc (.cells #[.int .i64 0, .int .i64 0] 90) = w1 at *
  generalize wr.heap.size = G at *
  refine wpIn_wide.2 ?_
  go_quiet (fail)
  gi_wp2
  refine wpIn_wide.2 ?_
  go_quiet (fail)
  gi_wp2
  refine wpIn_wide.2 ?_
  refine region_ab ((HS.out.drewN _).drewN _) _ _ _ _ _ _ _ _ _ _ _ _ _ _ _ _ _ _ _ _ _ _ _ _ _ _ _ _ _ _ _ _ _ _ _ _ _ _ _ _ _ _ _ _ _ _ _ _ _ _ _ _ _ _ _ _ _ _ _ _ _ _ _ _ _ _ _ _ _ _ _ _ _ _ _ _ _ _ _ _ _ _ _ _ _ _ _ _ _ _ _ _ ?_ _ (by rfl)
  intro w3 v15 v16 v17 v18 v19 v20 v21 v22 v23 v24 v25 v26 v27 v28 v29 v30 v31 S3
  clear c1 c2 f1 f2 x0 x1 x2 x3 ac3 ac4 bc3 bc4
  have J3 := HJT.out pre wr w3 S3.turn hJ
  obtain ⟨fn, tmps, assign, body, hy, hR⟩ := HY.out pre (d.1, d.2, f.2) (Vec.merge x y) w3 (by rw [HX.out, Vec.merge_eq _ _ HO.out]) J3
  have y0 := S3.cu
  have y1 := S3.cv
  unfold pairV at hy
  simp only at hy
  gi_wp2
  refine ⟨(fun h => by cases h), ?_⟩
  refine hR.mono ?_
  rintro e W3 ⟨rfl, hJ3, hS3, hB3⟩
  gi_wp2
  have HA3 := S3.ha.kept (hB3 _ (.inr (.inl rfl))) (fun k hk => hB3 k (.inl hk))
  have HB3 := S3.hb.kept (hB3 _ (.inr (.inr rfl))) (fun k hk => hB3 k (.inl hk))
  unfold RoundEnd at hQ
  apply hQ x y (d.1, d.2, f.2) W3
  · rw [HX.out, Vec.merge_eq _ _ HO.out]; simp
  · exact hJ3
  · exact HA3
  · exact HB3
  · first | (simp; done) | (simp; omega) | omega

end Go.Proofs.Ytdgjjlffdfpkcaa
