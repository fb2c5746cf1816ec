/- The iterator takes both lists' first dots. -/
import Derived.Test.YtdgjjlffdfpkcaaVecPairsMem
import Derived.Deep.RegionHeld3
namespace Go.Proofs.Ytdgjjlffdfpkcaa
open Go.RowKit Go.Shelf
attribute [local go_sem] Oper.semAt_some

set_option maxRecDepth 100000 in
set_option maxHeartbeats 4000000 in
theorem region_ab {wr w1 : World} {N Ba Bb G : Nat} {u v : Int} {x y : List Dot} {d f : Dot} (hS : Setup wr N Ba Bb G (d :: x) (f :: y) u v w1) (Q : Exit → Act → World → Prop) (u0 u3 u4 u6 u7 u8 u9 u10 u11 u12 u13 u14 u15 u16 u17 u18 u19 u20 u21 u22 u23 u24 u25 u26 u27 u28 u29 u30 u31 u32 u33 u34 u35 u36 u37 u38 u39 u40 u41 u42 u43 u44 u45 u46 u47 u48 u49 u50 u51 u52 u53 u54 u55 u56 u57 u58 u59 u60 u61 u62 u63 u64 u65 u66 u67 u68 u69 u70 u71 u72 u73 u74 u75 u76 u77 u78 u79 u80 u81 u82 u83 u84 u85 u86 u87 u88 u89 u90 u91 u92 u93 : Value)
    (hQ : ∀ (w3 : World) (v15 v16 v17 v18 v19 v20 v21 v22 v23 v24 v25 v26 v27 v28 v29 v30 v31 : Value), Setup wr N Ba Bb G x y d.2 f.2 w3 → Q .normal { tmps := (u0 :: .pointer (some ⟨Ba, 0, none⟩) :: .pointer (some ⟨Bb, 0, none⟩) :: u3 :: .int .i64 d.1 :: .pointer (some ⟨G, 0, none⟩) :: u6 :: u7 :: u8 :: u9 :: u10 :: u11 :: u12 :: u13 :: u14 :: v15 :: v16 :: v17 :: v18 :: v19 :: v20 :: v21 :: v22 :: v23 :: v24 :: v25 :: v26 :: v27 :: v28 :: v29 :: v30 :: v31 :: u32 :: u33 :: u34 :: u35 :: u36 :: u37 :: u38 :: u39 :: u40 :: u41 :: u42 :: u43 :: u44 :: u45 :: u46 :: u47 :: u48 :: u49 :: u50 :: u51 :: u52 :: u53 :: u54 :: u55 :: u56 :: u57 :: u58 :: u59 :: u60 :: u61 :: u62 :: u63 :: u64 :: u65 :: u66 :: u67 :: u68 :: u69 :: u70 :: u71 :: u72 :: u73 :: u74 :: u75 :: u76 :: u77 :: u78 :: u79 :: u80 :: u81 :: u82 :: u83 :: u84 :: u85 :: u86 :: u87 :: u88 :: u89 :: u90 :: u91 :: u92 :: u93 :: ([] : List Value)).toArray, defers := [] } w3)
    (c : Code) (hc : (Try.f84.body.bind (regionOf 2)) = some c) :
    c.wp Try.prog Q { tmps := (u0 :: .pointer (some ⟨Ba, 0, none⟩) :: .pointer (some ⟨Bb, 0, none⟩) :: u3 :: u4 :: .pointer (some ⟨G, 0, none⟩) :: u6 :: u7 :: u8 :: u9 :: u10 :: u11 :: u12 :: u13 :: u14 :: u15 :: u16 :: u17 :: u18 :: u19 :: u20 :: u21 :: u22 :: u23 :: u24 :: u25 :: u26 :: u27 :: u28 :: u29 :: u30 :: u31 :: u32 :: u33 :: u34 :: u35 :: u36 :: u37 :: u38 :: u39 :: u40 :: u41 :: u42 :: u43 :: u44 :: u45 :: u46 :: u47 :: u48 :: u49 :: u50 :: u51 :: u52 :: u53 :: u54 :: u55 :: u56 :: u57 :: u58 :: u59 :: u60 :: u61 :: u62 :: u63 :: u64 :: u65 :: u66 :: u67 :: u68 :: u69 :: u70 :: u71 :: u72 :: u73 :: u74 :: u75 :: u76 :: u77 :: u78 :: u79 :: u80 :: u81 :: u82 :: u83 :: u84 :: u85 :: u86 :: u87 :: u88 :: u89 :: u90 :: u91 :: u92 :: u93 :: ([] : List Value)).toArray, defers := [] } w1 := by
  simp [Try.f84, regionOf] at hc
  subst hc
  obtain ⟨l1, l2, l3, l4, l5, _⟩ := hS.lo
  obtain ⟨pa, ca, c1, fa, hna, hma, hda, hqa⟩ := hS.ha
  rw [List.length_cons] at c1 hna hda
  obtain ⟨a1, a2, a3, a4 | ⟨ba, oa, rfl, adat⟩⟩ := hda
  · omega
  have a0 := adat 0 (by simp)
  simp only [List.getElem_cons_zero, Nat.zero_mul, Nat.add_zero] at a0
  obtain ⟨ae1, ae2⟩ := a0
  have ag4 : ba < N := hqa _ rfl (by simp)
  generalize hmm : x.length + 1 = m at *
  have hm0 : 0 < m := by omega
  clear hqa adat a3 a1 hmm
  obtain ⟨pb, cb, c2, fb, hnb, hmb, hdb, hqb⟩ := hS.hb
  rw [List.length_cons] at c2 hnb hdb
  obtain ⟨b1, b2, b3, b4 | ⟨bb, ob, rfl, bdat⟩⟩ := hdb
  · omega
  have b0 := bdat 0 (by simp)
  simp only [List.getElem_cons_zero, Nat.zero_mul, Nat.add_zero] at b0
  obtain ⟨be1, be2⟩ := b0
  have bg4 : bb < N := hqb _ rfl (by simp)
  generalize hkm : y.length + 1 = k at *
  have hk0 : 0 < k := by omega
  clear hqb bdat b3 b1 hkm
  have HS := Lib.hid hS
  have x0 := hS.cu
  have x1 := hS.cv
  have x2 := hS.fu
  have x3 := hS.fv
  clear hS
  refine wp_region_noPanic ?_
  go_region
  refine NoPanic.normal ?_
  refine HS.out.intoE c1 c2 ?_
  intro w3 S3
  exact hQ w3 _ _ _ _ _ _ _ _ _ _ _ _ _ _ _ _ _ S3

end Go.Proofs.Ytdgjjlffdfpkcaa
