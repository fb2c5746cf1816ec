/- Sync, Fuse and Crash upon a disk and upon the document's disk; any act. PRINTED BY mk_lawacts.py. -/
import Derived.Test.YtfegfbhchdfibaaLawStep
namespace Go.Proofs.Ytfegfbhchdfibaa
open Go.RowKit

set_option maxRecDepth 100000 in
set_option maxHeartbeats 4000000 in
theorem law_step_4 {w0 w : World} {S : Nat → Prop} {B : Nat} {d : DK.D} {T : List RStep} {fuse : Int} {sv nv tv : Value} {N : Nat} (h : Both w0 w S B d T fuse sv nv tv) (hg : DK.Good N d) (hN : N ≤ 30000) (y : ActV) (hy : y.name.size ≤ 20000 ∧ y.to_.size ≤ 20000 ∧ y.s.size ≤ 20000) (hwf : y.Wf) (hk : y.kind = 4) :
    Calls Try.prog 18 #[.pointer (some ⟨B, 0, none⟩), .agg (rdCells d.room sv nv tv d.dead fuse), .agg (actCells y)] w fun e w' => ∃ S' sv' nv' tv' T' fuse', e = .returned (.tuple #[.agg (rdCells (DK.lstep d y).room sv' nv' tv' (DK.lstep d y).dead fuse'), .bool true]) ∧ Both w0 w' S' B (DK.lstep d y) T' fuse' sv' nv' tv' ∧ Turn S w w' ∧ Grew w S S' := by
  have HB := Lib.hid h
  have HGD := Lib.hid hg
  obtain ⟨p1, c1, rfl⟩ := h.fs.slice
  obtain ⟨p2, c2, rfl⟩ := h.fn.slice
  obtain ⟨p3, c3, rfl⟩ := h.st.slice
  rw [DK.lstep_room]
  have hlt := h.held.disk.lt'
  unfold rdCells actCells
  obtain ⟨kd, nm, tt, at', nn, s⟩ := y
  obtain ⟨y1, y2, y3⟩ := hy
  obtain ⟨wf1, wf2⟩ := hwf
  simp only at y1 y2 y3 wf1 wf2 hk ⊢
  obtain ⟨m1, hm1⟩ : ∃ m, d.safe.length = m := ⟨_, rfl⟩
  obtain ⟨m2, hm2⟩ : ∃ m, d.now.length = m := ⟨_, rfl⟩
  obtain ⟨m3, hm3⟩ : ∃ m, T.length = m := ⟨_, rfl⟩
  obtain ⟨room, hroom⟩ : ∃ r, d.room = r := ⟨_, rfl⟩
  obtain ⟨dead, hdead⟩ : ∃ r, d.dead = r := ⟨_, rfl⟩
  have HRO := Lib.hid hroom
  have HDE := Lib.hid hdead
  rw [hm1, hm2, hm3, hroom, hdead]
  rw [hm1, hm2, hm3] at HB
  obtain ⟨g1, g2, g3, hx⟩ := three_alloc w #[.int .i64 room, .slice p1 m1 c1, .slice p2 m2 c2, .slice p3 m3 c3, .bool dead, .int .i64 fuse] #[.int .i64 kd, .string nm, .string tt, .int .i64 at', .int .i64 nn, .string s] #[.int .i64 0, .slice none 0 0, .slice none 0 0, .slice none 0 0, .bool false, .int .i64 0] 44 29 44
  have HX := Lib.hid hx
  have HLT := Lib.hid hlt
  clear hx h hg hm1 hm2 hm3 hroom hdead hlt
  subst hk
  go_enter Try.func18, Try.ntmps18
  go_upto_region 1 with fail
  generalize hW : ((w.alloc _).alloc _).alloc _ = W at *
  generalize hXw : w.heap.size = X at g1 g2 g3 ⊢
  have HXX := Lib.hid hXw
  have HG1 := Lib.hid g1
  have HG2 := Lib.hid g2
  have HG3 := Lib.hid g3
  obtain ⟨a0, a1, a2, a3, a4, a5⟩ := box6 g2
  clear hW hXw g1 g2 g3
  go_upto_region 3 with fail
  have xs := (Ext.refl W).alloc (.cells #[.int .i64 4, .string nm, .string tt, .int .i64 at', .string s] 75)
  have HK1 := Lib.hid ((xs.block (Array.getElem?_eq_some_iff.1 HG1.out).1).trans HG1.out)
  have HK2 := Lib.hid ((xs.block (Array.getElem?_eq_some_iff.1 HG2.out).1).trans HG2.out)
  have HK3 := Lib.hid ((xs.block (Array.getElem?_eq_some_iff.1 HG3.out).1).trans HG3.out)
  have HK4 := Lib.hid (heap_alloc_new W (.cells #[.int .i64 4, .string nm, .string tt, .int .i64 at', .string s] 75))
  have HXW := Lib.hid (HX.out.trans xs)
  have hHn : ¬ S W.heap.size := fun hS => by have := HLT.out _ hS; have := HX.out.size; omega
  have hXn : ∀ k, X ≤ k → ¬ S k := fun k hk hS => by have := HLT.out _ hS; have := HXX.out; omega
  have HHN := Lib.hid hHn
  have HXN := Lib.hid hXn
  clear a0 a1 a2 a3 a4 a5 xs hHn hXn
  generalize W.alloc (.cells #[.int .i64 4, .string nm, .string tt, .int .i64 at', .string s] 75) = W2 at *
  generalize W.heap.size = H at *
  clear HG1 HG2 HG3 HX
  have HH2 := Lib.hid (HB.out.held.more HXW.out)
  obtain ⟨a0, a1, a2, a3, a4, a5⟩ := box6 HK2.out
  obtain ⟨D', E, hDE⟩ : ∃ D' E, DK.syncD d = (D', E) := ⟨_, _, rfl⟩
  have HLS : Hid (DK.lstep d ⟨4, nm, tt, at', nn, s⟩ = D') := Lib.hid (by
    unfold DK.lstep
    rw [if_neg (by simp), if_pos rfl, hDE])
  have HC := Lib.hid (disk_sync HH2.out.disk HGD.out.fuse)
  rw [hDE] at HC
  have HSR : Hid (D'.room = room ∧ D'.now = d.now) := Lib.hid (by
    have h := DK.sync_room d
    rw [hDE, HRO.out] at h
    exact h)
  have HDES := Lib.hid hDE
  clear hDE
  go_wp2_with fail
  refine HC.out.mono ?_
  rintro e w1 ⟨rfl, hl⟩
  obtain ⟨S1, h1, ht1, hg1⟩ := HH2.out.next hl
  have HH1 := Lib.hid h1
  have HT1 := Lib.hid ht1
  have HGR1 := Lib.hid hg1
  have HI1 := Lib.hid ((ht1.block X (Array.getElem?_eq_some_iff.1 HK1.out).1 (HXN.out X (Nat.le_refl _))).trans HK1.out)
  have HI2 := Lib.hid ((ht1.block (X + 1) (Array.getElem?_eq_some_iff.1 HK2.out).1 (HXN.out _ (by omega))).trans HK2.out)
  have HI3 := Lib.hid ((ht1.block (X + 1 + 1) (Array.getElem?_eq_some_iff.1 HK3.out).1 (HXN.out _ (by omega))).trans HK3.out)
  have fn1 := (HB.out.fn.ext HXW.out).turn ht1 HB.out.on
  have fs1 := (HB.out.fs.ext HXW.out).turn ht1 HB.out.os
  have ft1 := (HB.out.st.ext HXW.out).turn ht1 HB.out.ot
  have HFS1 := Lib.hid fs1
  have HFN1 := Lib.hid fn1
  have HFT1 := Lib.hid ft1
  have hdo := ref_sync fn1 ft1 fs1 HB.out.rel HGD.out
  unfold rdCells at hdo
  rw [HRO.out, HDE.out, HDES.out] at hdo
  simp only at hdo
  have HDO := Lib.hid hdo
  obtain ⟨k0, k1, k2, k3, k4, k5⟩ := box6 HI1.out
  obtain ⟨q0, q1, q2, q3, q4, q5⟩ := boxF HI1.out
  clear a0 a1 a2 a3 a4 a5 hl h1 ht1 hg1 fn1 fs1 ft1 hdo
  go_wp2_with fail
  refine HDO.out.mono ?_
  rintro e w2 ⟨sv', tv', T', fz, rfl, hfs, hft, hre, hx2, hos, hot⟩
  have HFS := Lib.hid hfs
  have HFT := Lib.hid hft
  have HREL := Lib.hid hre
  have HG2 := Lib.hid hx2
  have HOT := Lib.hid hot
  have HOS : Hid (NewOr w1 (.slice p1 m1 c1) sv' ∨ NewOr w1 (.slice p2 m2 c2) sv') := Lib.hid (hos.imp .inl .inl)
  have HFN : Hid (FsV w2 (.slice p2 m2 c2) D'.now) := Lib.hid (by rw [HSR.out.2]; exact HFN1.out.ext hx2)
  have hj1 := (hx2.block (Array.getElem?_eq_some_iff.1 HI1.out).1).trans HI1.out
  have HJ1 := Lib.hid hj1
  have HJ3 := Lib.hid ((hx2.block (Array.getElem?_eq_some_iff.1 HI3.out).1).trans HI3.out)
  obtain ⟨p5, c5, rfl⟩ := hfs.slice
  obtain ⟨p6, c6, rfl⟩ := hft.slice
  clear k0 k1 k2 k3 k4 k5 q0 q1 q2 q3 q4 q5 hfs hft hre hx2 hos hot
  obtain ⟨m5, hm5⟩ : ∃ m, D'.safe.length = m := ⟨_, rfl⟩
  obtain ⟨m6, hm6⟩ : ∃ m, T'.length = m := ⟨_, rfl⟩
  obtain ⟨dd, hdd⟩ : ∃ r, D'.dead = r := ⟨_, rfl⟩
  rw [hm5] at HFS HOS ⊢
  rw [hm6] at HFT HOT ⊢
  rw [hdd]
  have HDD := Lib.hid hdd
  clear hm5 hm6 hdd
  obtain ⟨k0, k1, k2, k3, k4, k5⟩ := box6 hj1
  obtain ⟨q0, q1, q2, q3, q4, q5⟩ := boxF hj1
  clear hj1
  have hxA := set6_heap HJ1.out (.int .i64 room) (.slice p5 m5 c5) (.slice p2 m2 c2) (.slice p6 m6 c6) (.bool dd) (.int .i64 fz)
  have gA := grown_set6 w2 X (.int .i64 room) (.slice p5 m5 c5) (.slice p2 m2 c2) (.slice p6 m6 c6) (.bool dd) (.int .i64 fz)
  have hrA := (gA.block (X + 1 + 1) (Array.getElem?_eq_some_iff.1 HJ3.out).1 (by intro e; injection e with e; omega)).trans HJ3.out
  unfold set6 at hxA gA hrA
  have HXA := Lib.hid hxA
  have HGA := Lib.hid gA
  have HRA := Lib.hid hrA
  clear hxA gA hrA
  go_upto_region 24 with fail
  clear k0 k1 k2 k3 k4 k5 q0 q1 q2 q3 q4 q5
  generalize (((((w2.setCell _ _).setCell _ _).setCell _ _).setCell _ _).setCell _ _).setCell _ _ = w9 at *
  obtain ⟨f0, f1, f2, f3, f4, f5⟩ := box6 HXA.out
  obtain ⟨r0, r1, r2, r3, r4, r5⟩ := box6 HRA.out
  obtain ⟨s0, s1, s2, s3, s4, s5⟩ := boxF HRA.out
  go_wp2
  refine bodyPost_ret (ret_D rfl _ _ (X + 1 + 1) _ _ _ _ _ _ _ _ _ rfl rfl (set6_heap HRA.out _ _ _ _ _ _)) rfl ?_
  have gB := grown_set6 w9 (X + 1 + 1) (.int .i64 room) (.slice p5 m5 c5) (.slice p2 m2 c2) (.slice p6 m6 c6) (.bool dd) (.int .i64 fz)
  rw [HLS.out, HDD.out]
  have hend := both_end HB.out HXW.out (by have := HXX.out; omega) HH1.out HT1.out HGR1.out (Array.getElem?_eq_some_iff.1 HK3.out).1 HG2.out HGA.out _ gB (loose6 HJ1.out) (loose6 HRA.out) HFS.out HFN.out HFT.out HOS.out (.inl (.inl rfl)) HOT.out HREL.out
  exact ⟨S1, _, _, _, T', fz, rfl, hend⟩

set_option maxRecDepth 100000 in
set_option maxHeartbeats 4000000 in
theorem law_step_5 {w0 w : World} {S : Nat → Prop} {B : Nat} {d : DK.D} {T : List RStep} {fuse : Int} {sv nv tv : Value} {N : Nat} (h : Both w0 w S B d T fuse sv nv tv) (hg : DK.Good N d) (hN : N ≤ 30000) (y : ActV) (hy : y.name.size ≤ 20000 ∧ y.to_.size ≤ 20000 ∧ y.s.size ≤ 20000) (hwf : y.Wf) (hk : y.kind = 5) :
    Calls Try.prog 18 #[.pointer (some ⟨B, 0, none⟩), .agg (rdCells d.room sv nv tv d.dead fuse), .agg (actCells y)] w fun e w' => ∃ S' sv' nv' tv' T' fuse', e = .returned (.tuple #[.agg (rdCells (DK.lstep d y).room sv' nv' tv' (DK.lstep d y).dead fuse'), .bool true]) ∧ Both w0 w' S' B (DK.lstep d y) T' fuse' sv' nv' tv' ∧ Turn S w w' ∧ Grew w S S' := by
  have HB := Lib.hid h
  have HGD := Lib.hid hg
  obtain ⟨p1, c1, rfl⟩ := h.fs.slice
  obtain ⟨p2, c2, rfl⟩ := h.fn.slice
  obtain ⟨p3, c3, rfl⟩ := h.st.slice
  rw [DK.lstep_room]
  have hlt := h.held.disk.lt'
  unfold rdCells actCells
  obtain ⟨kd, nm, tt, at', nn, s⟩ := y
  obtain ⟨y1, y2, y3⟩ := hy
  obtain ⟨wf1, wf2⟩ := hwf
  simp only at y1 y2 y3 wf1 wf2 hk ⊢
  obtain ⟨m1, hm1⟩ : ∃ m, d.safe.length = m := ⟨_, rfl⟩
  obtain ⟨m2, hm2⟩ : ∃ m, d.now.length = m := ⟨_, rfl⟩
  obtain ⟨m3, hm3⟩ : ∃ m, T.length = m := ⟨_, rfl⟩
  obtain ⟨room, hroom⟩ : ∃ r, d.room = r := ⟨_, rfl⟩
  obtain ⟨dead, hdead⟩ : ∃ r, d.dead = r := ⟨_, rfl⟩
  have HRO := Lib.hid hroom
  have HDE := Lib.hid hdead
  rw [hm1, hm2, hm3, hroom, hdead]
  rw [hm1, hm2, hm3] at HB
  obtain ⟨g1, g2, g3, hx⟩ := three_alloc w #[.int .i64 room, .slice p1 m1 c1, .slice p2 m2 c2, .slice p3 m3 c3, .bool dead, .int .i64 fuse] #[.int .i64 kd, .string nm, .string tt, .int .i64 at', .int .i64 nn, .string s] #[.int .i64 0, .slice none 0 0, .slice none 0 0, .slice none 0 0, .bool false, .int .i64 0] 44 29 44
  have HX := Lib.hid hx
  have HLT := Lib.hid hlt
  clear hx h hg hm1 hm2 hm3 hroom hdead hlt
  subst hk
  go_enter Try.func18, Try.ntmps18
  go_upto_region 1 with fail
  generalize hW : ((w.alloc _).alloc _).alloc _ = W at *
  generalize hXw : w.heap.size = X at g1 g2 g3 ⊢
  have HXX := Lib.hid hXw
  have HG1 := Lib.hid g1
  have HG2 := Lib.hid g2
  have HG3 := Lib.hid g3
  obtain ⟨a0, a1, a2, a3, a4, a5⟩ := box6 g2
  clear hW hXw g1 g2 g3
  go_upto_region 3 with fail
  have xs := (Ext.refl W).alloc (.cells #[.int .i64 5, .string nm, .string tt, .int .i64 at', .string s] 75)
  have HK1 := Lib.hid ((xs.block (Array.getElem?_eq_some_iff.1 HG1.out).1).trans HG1.out)
  have HK2 := Lib.hid ((xs.block (Array.getElem?_eq_some_iff.1 HG2.out).1).trans HG2.out)
  have HK3 := Lib.hid ((xs.block (Array.getElem?_eq_some_iff.1 HG3.out).1).trans HG3.out)
  have HK4 := Lib.hid (heap_alloc_new W (.cells #[.int .i64 5, .string nm, .string tt, .int .i64 at', .string s] 75))
  have HXW := Lib.hid (HX.out.trans xs)
  have hHn : ¬ S W.heap.size := fun hS => by have := HLT.out _ hS; have := HX.out.size; omega
  have hXn : ∀ k, X ≤ k → ¬ S k := fun k hk hS => by have := HLT.out _ hS; have := HXX.out; omega
  have HHN := Lib.hid hHn
  have HXN := Lib.hid hXn
  clear a0 a1 a2 a3 a4 a5 xs hHn hXn
  generalize W.alloc (.cells #[.int .i64 5, .string nm, .string tt, .int .i64 at', .string s] 75) = W2 at *
  generalize W.heap.size = H at *
  clear HG1 HG2 HG3 HX
  have HH2 := Lib.hid (HB.out.held.more HXW.out)
  obtain ⟨a0, a1, a2, a3, a4, a5⟩ := box6 HK2.out
  obtain ⟨fz, hfz⟩ : ∃ f, max at' (-1) = f := ⟨_, rfl⟩
  have hmx : ∀ w, (Builtin.max_ #[3, 3] 3 #[.int .i64 at', .int .i64 (-1)]).run Try.prog w = .ok (.int .i64 fz) w := fun w => by rw [← hfz]; exact run_max2 _ _ _ _ _
  have HLS : Hid (DK.lstep d ⟨5, nm, tt, at', nn, s⟩ = DK.setFuse d at') := Lib.hid (by
    unfold DK.lstep
    rw [if_neg (by simp), if_neg (by simp), if_pos rfl])
  have HREL : Hid (RelD (DK.setFuse d at') T fz) := Lib.hid ⟨HB.out.rel.todo, HB.out.rel.wf, by omega, fun _ => by
    show fz = if decide (0 ≤ at') = true then at' else -1
    by_cases h0 : 0 ≤ at'
    · rw [decide_eq_true h0, if_pos rfl]; omega
    · rw [decide_eq_false h0, if_neg (by simp)]; omega⟩
  have HC := Lib.hid (disk_fuse HH2.out.disk at')
  clear hfz
  go_wp2_with fail
  refine HC.out.mono ?_
  rintro e w1 ⟨rfl, hl⟩
  obtain ⟨S1, h1, ht1, hg1⟩ := HH2.out.next hl
  have HH1 := Lib.hid h1
  have HT1 := Lib.hid ht1
  have HGR1 := Lib.hid hg1
  have HI1 := Lib.hid ((ht1.block X (Array.getElem?_eq_some_iff.1 HK1.out).1 (HXN.out X (Nat.le_refl _))).trans HK1.out)
  have HI2 := Lib.hid ((ht1.block (X + 1) (Array.getElem?_eq_some_iff.1 HK2.out).1 (HXN.out _ (by omega))).trans HK2.out)
  have HI3 := Lib.hid ((ht1.block (X + 1 + 1) (Array.getElem?_eq_some_iff.1 HK3.out).1 (HXN.out _ (by omega))).trans HK3.out)
  have fn1 := (HB.out.fn.ext HXW.out).turn ht1 HB.out.on
  have fs1 := (HB.out.fs.ext HXW.out).turn ht1 HB.out.os
  have ft1 := (HB.out.st.ext HXW.out).turn ht1 HB.out.ot
  have HFS1 := Lib.hid fs1
  have HFN1 := Lib.hid fn1
  have HFT1 := Lib.hid ft1
  have HFS : Hid (FsV w1 (.slice p1 m1 c1) (DK.setFuse d at').safe) := HFS1
  have HFN : Hid (FsV w1 (.slice p2 m2 c2) (DK.setFuse d at').now) := HFN1
  have HFT := HFT1
  have HG2 := Lib.hid (Ext.refl w1)
  obtain ⟨k0, k1, k2, k3, k4, k5⟩ := box6 HI1.out
  obtain ⟨q0, q1, q2, q3, q4, q5⟩ := boxF HI1.out
  clear a0 a1 a2 a3 a4 a5
  obtain ⟨a0, a1, a2, a3, a4, a5⟩ := box6 HI2.out
  have hxA : (w1.setCell ⟨X, 5, none⟩ (.int .i64 fz)).heap[X]? = some (.cells #[.int .i64 room, .slice p1 m1 c1, .slice p2 m2 c2, .slice p3 m3 c3, .bool dead, .int .i64 fz] 44 (0, 0)) := by
    have := HI1.out
    unfold World.setCell
    rw [Array.getElem?_modify, if_pos rfl, this]
    rfl
  have gA := grown_setCell w1 X 5 (.int .i64 fz)
  have HXA := Lib.hid hxA
  have HRA := Lib.hid ((gA.block (X + 1 + 1) (Array.getElem?_eq_some_iff.1 HI3.out).1 (by intro e; injection e with e; omega)).trans HI3.out)
  have HGA := Lib.hid gA
  clear hl h1 ht1 hg1 fn1 fs1 ft1 hxA gA
  go_upto_region 24 with fail
  clear k0 k1 k2 k3 k4 k5 q0 q1 q2 q3 q4 q5 a0 a1 a2 a3 a4 a5
  generalize w1.setCell _ _ = w9 at *
  obtain ⟨f0, f1, f2, f3, f4, f5⟩ := box6 HXA.out
  obtain ⟨r0, r1, r2, r3, r4, r5⟩ := box6 HRA.out
  obtain ⟨s0, s1, s2, s3, s4, s5⟩ := boxF HRA.out
  go_wp2
  refine bodyPost_ret (ret_D rfl _ _ (X + 1 + 1) _ _ _ _ _ _ _ _ _ rfl rfl (set6_heap HRA.out _ _ _ _ _ _)) rfl ?_
  have gB := grown_set6 w9 (X + 1 + 1) (.int .i64 room) (.slice p1 m1 c1) (.slice p2 m2 c2) (.slice p3 m3 c3) (.bool dead) (.int .i64 fz)
  rw [HLS.out, show (DK.setFuse d at').dead = dead from HDE.out]
  have hend := both_end HB.out HXW.out (by have := HXX.out; omega) HH1.out HT1.out HGR1.out (Array.getElem?_eq_some_iff.1 HK3.out).1 HG2.out HGA.out _ gB (loose6 HI1.out) (loose6 HRA.out) HFS.out HFN.out HFT.out (.inl (.inl rfl)) (.inl (.inl rfl)) (.inl rfl) HREL.out
  exact ⟨S1, _, _, _, T, fz, rfl, hend⟩

set_option maxRecDepth 100000 in
set_option maxHeartbeats 4000000 in
theorem law_step_6 {w0 w : World} {S : Nat → Prop} {B : Nat} {d : DK.D} {T : List RStep} {fuse : Int} {sv nv tv : Value} {N : Nat} (h : Both w0 w S B d T fuse sv nv tv) (hg : DK.Good N d) (hN : N ≤ 30000) (y : ActV) (hy : y.name.size ≤ 20000 ∧ y.to_.size ≤ 20000 ∧ y.s.size ≤ 20000) (hwf : y.Wf) (hk0 : ¬ y.kind = 0) (hk1 : ¬ y.kind = 1) (hk2 : ¬ y.kind = 2) (hk3 : ¬ y.kind = 3) (hk4 : ¬ y.kind = 4) (hk5 : ¬ y.kind = 5) :
    Calls Try.prog 18 #[.pointer (some ⟨B, 0, none⟩), .agg (rdCells d.room sv nv tv d.dead fuse), .agg (actCells y)] w fun e w' => ∃ S' sv' nv' tv' T' fuse', e = .returned (.tuple #[.agg (rdCells (DK.lstep d y).room sv' nv' tv' (DK.lstep d y).dead fuse'), .bool true]) ∧ Both w0 w' S' B (DK.lstep d y) T' fuse' sv' nv' tv' ∧ Turn S w w' ∧ Grew w S S' := by
  have HB := Lib.hid h
  have HGD := Lib.hid hg
  obtain ⟨p1, c1, rfl⟩ := h.fs.slice
  obtain ⟨p2, c2, rfl⟩ := h.fn.slice
  obtain ⟨p3, c3, rfl⟩ := h.st.slice
  rw [DK.lstep_room]
  have hlt := h.held.disk.lt'
  unfold rdCells actCells
  obtain ⟨kd, nm, tt, at', nn, s⟩ := y
  obtain ⟨y1, y2, y3⟩ := hy
  obtain ⟨wf1, wf2⟩ := hwf
  simp only at y1 y2 y3 wf1 wf2 hk0 hk1 hk2 hk3 hk4 hk5 ⊢
  obtain ⟨m1, hm1⟩ : ∃ m, d.safe.length = m := ⟨_, rfl⟩
  obtain ⟨m2, hm2⟩ : ∃ m, d.now.length = m := ⟨_, rfl⟩
  obtain ⟨m3, hm3⟩ : ∃ m, T.length = m := ⟨_, rfl⟩
  obtain ⟨room, hroom⟩ : ∃ r, d.room = r := ⟨_, rfl⟩
  obtain ⟨dead, hdead⟩ : ∃ r, d.dead = r := ⟨_, rfl⟩
  have HRO := Lib.hid hroom
  have HDE := Lib.hid hdead
  rw [hm1, hm2, hm3, hroom, hdead]
  rw [hm1, hm2, hm3] at HB
  obtain ⟨g1, g2, g3, hx⟩ := three_alloc w #[.int .i64 room, .slice p1 m1 c1, .slice p2 m2 c2, .slice p3 m3 c3, .bool dead, .int .i64 fuse] #[.int .i64 kd, .string nm, .string tt, .int .i64 at', .int .i64 nn, .string s] #[.int .i64 0, .slice none 0 0, .slice none 0 0, .slice none 0 0, .bool false, .int .i64 0] 44 29 44
  have HX := Lib.hid hx
  have HLT := Lib.hid hlt
  clear hx h hg hm1 hm2 hm3 hroom hdead hlt
  go_enter Try.func18, Try.ntmps18
  go_upto_region 1 with fail
  generalize hW : ((w.alloc _).alloc _).alloc _ = W at *
  generalize hXw : w.heap.size = X at g1 g2 g3 ⊢
  have HXX := Lib.hid hXw
  have HG1 := Lib.hid g1
  have HG2 := Lib.hid g2
  have HG3 := Lib.hid g3
  obtain ⟨a0, a1, a2, a3, a4, a5⟩ := box6 g2
  clear hW hXw g1 g2 g3
  go_upto_region 3 with fail
  have xs := (Ext.refl W).alloc (.cells #[.int .i64 kd, .string nm, .string tt, .int .i64 at', .string s] 75)
  have HK1 := Lib.hid ((xs.block (Array.getElem?_eq_some_iff.1 HG1.out).1).trans HG1.out)
  have HK2 := Lib.hid ((xs.block (Array.getElem?_eq_some_iff.1 HG2.out).1).trans HG2.out)
  have HK3 := Lib.hid ((xs.block (Array.getElem?_eq_some_iff.1 HG3.out).1).trans HG3.out)
  have HK4 := Lib.hid (heap_alloc_new W (.cells #[.int .i64 kd, .string nm, .string tt, .int .i64 at', .string s] 75))
  have HXW := Lib.hid (HX.out.trans xs)
  have hHn : ¬ S W.heap.size := fun hS => by have := HLT.out _ hS; have := HX.out.size; omega
  have hXn : ∀ k, X ≤ k → ¬ S k := fun k hk hS => by have := HLT.out _ hS; have := HXX.out; omega
  have HHN := Lib.hid hHn
  have HXN := Lib.hid hXn
  clear a0 a1 a2 a3 a4 a5 xs hHn hXn
  generalize W.alloc (.cells #[.int .i64 kd, .string nm, .string tt, .int .i64 at', .string s] 75) = W2 at *
  generalize W.heap.size = H at *
  clear HG1 HG2 HG3 HX
  have HH2 := Lib.hid (HB.out.held.more HXW.out)
  obtain ⟨a0, a1, a2, a3, a4, a5⟩ := box6 HK2.out
  have HLS : Hid (DK.lstep d ⟨kd, nm, tt, at', nn, s⟩ = DK.crash d at' nn) := Lib.hid (by
    unfold DK.lstep
    rw [if_neg (by simp only; omega), if_neg (by simp only; omega), if_neg (by simp only; omega)])
  have HREL : Hid (RelD (DK.crash d at' nn) [] (-1)) := Lib.hid ⟨rfl, (fun z hz => by cases hz), by omega, fun _ => rfl⟩
  have HC := Lib.hid (disk_crash HH2.out.disk HGD.out (by omega) at' nn)
  obtain ⟨z0a, z0b⟩ := ne_facts0 hk0
  obtain ⟨z1a, z1b⟩ := ne_facts0 hk1
  obtain ⟨z2a, z2b⟩ := ne_facts0 hk2
  obtain ⟨z3a, z3b⟩ := ne_facts0 hk3
  obtain ⟨z4a, z4b⟩ := ne_facts0 hk4
  obtain ⟨z5a, z5b⟩ := ne_facts0 hk5
  clear hk0 hk1 hk2 hk3 hk4 hk5
  go_wp2_with fail
  refine HC.out.mono ?_
  rintro e w1 ⟨rfl, hl⟩
  obtain ⟨S1, h1, ht1, hg1⟩ := HH2.out.next hl
  have HH1 := Lib.hid h1
  have HT1 := Lib.hid ht1
  have HGR1 := Lib.hid hg1
  have HI1 := Lib.hid ((ht1.block X (Array.getElem?_eq_some_iff.1 HK1.out).1 (HXN.out X (Nat.le_refl _))).trans HK1.out)
  have HI2 := Lib.hid ((ht1.block (X + 1) (Array.getElem?_eq_some_iff.1 HK2.out).1 (HXN.out _ (by omega))).trans HK2.out)
  have HI3 := Lib.hid ((ht1.block (X + 1 + 1) (Array.getElem?_eq_some_iff.1 HK3.out).1 (HXN.out _ (by omega))).trans HK3.out)
  have fn1 := (HB.out.fn.ext HXW.out).turn ht1 HB.out.on
  have fs1 := (HB.out.fs.ext HXW.out).turn ht1 HB.out.os
  have ft1 := (HB.out.st.ext HXW.out).turn ht1 HB.out.ot
  have HFS1 := Lib.hid fs1
  have HFN1 := Lib.hid fn1
  have HFT1 := Lib.hid ft1
  have hdo := ref_crash fn1 ft1 fs1 HB.out.rel HGD.out (by omega) at' nn
  unfold rdCells at hdo
  rw [HRO.out, HDE.out] at hdo
  have HDO := Lib.hid hdo
  obtain ⟨k0, k1, k2, k3, k4, k5⟩ := box6 HI1.out
  obtain ⟨q0, q1, q2, q3, q4, q5⟩ := boxF HI1.out
  clear a0 a1 a2 a3 a4 a5
  obtain ⟨a0, a1, a2, a3, a4, a5⟩ := box6 HI2.out
  clear hl h1 ht1 hg1 fn1 fs1 ft1 hdo
  go_wp2_with fail
  refine HDO.out.mono ?_
  rintro e w2 ⟨v', rfl, hfs, hx2, hos⟩
  have HFS : Hid (FsV w2 v' (DK.crash d at' nn).safe) := hfs
  have HFN : Hid (FsV w2 v' (DK.crash d at' nn).now) := hfs
  have HG2 := Lib.hid hx2
  have HOS := Lib.hid hos
  have HFT := Lib.hid (StsV.nil w2)
  have hj1 := (hx2.block (Array.getElem?_eq_some_iff.1 HI1.out).1).trans HI1.out
  have HJ1 := Lib.hid hj1
  have HJ3 := Lib.hid ((hx2.block (Array.getElem?_eq_some_iff.1 HI3.out).1).trans HI3.out)
  obtain ⟨p5, c5, rfl⟩ := hfs.slice
  clear k0 k1 k2 k3 k4 k5 q0 q1 q2 q3 q4 q5 a0 a1 a2 a3 a4 a5 hfs hx2 hos
  obtain ⟨m5, hm5⟩ : ∃ m, (DK.left d at' nn).length = m := ⟨_, rfl⟩
  rw [hm5] at HFS HFN HOS ⊢
  clear hm5
  obtain ⟨k0, k1, k2, k3, k4, k5⟩ := box6 hj1
  obtain ⟨q0, q1, q2, q3, q4, q5⟩ := boxF hj1
  clear hj1
  have hxA := set6_heap HJ1.out (.int .i64 room) (.slice p5 m5 c5) (.slice p5 m5 c5) (.slice none 0 0) (.bool false) (.int .i64 (-1))
  have gA := grown_set6 w2 X (.int .i64 room) (.slice p5 m5 c5) (.slice p5 m5 c5) (.slice none 0 0) (.bool false) (.int .i64 (-1))
  have hrA := (gA.block (X + 1 + 1) (Array.getElem?_eq_some_iff.1 HJ3.out).1 (by intro e; injection e with e; omega)).trans HJ3.out
  unfold set6 at hxA gA hrA
  have HXA := Lib.hid hxA
  have HGA := Lib.hid gA
  have HRA := Lib.hid hrA
  clear hxA gA hrA
  go_upto_region 24 with fail
  clear k0 k1 k2 k3 k4 k5 q0 q1 q2 q3 q4 q5
  generalize (((((w2.setCell _ _).setCell _ _).setCell _ _).setCell _ _).setCell _ _).setCell _ _ = w9 at *
  obtain ⟨f0, f1, f2, f3, f4, f5⟩ := box6 HXA.out
  obtain ⟨r0, r1, r2, r3, r4, r5⟩ := box6 HRA.out
  obtain ⟨s0, s1, s2, s3, s4, s5⟩ := boxF HRA.out
  go_wp2
  refine bodyPost_ret (ret_D rfl _ _ (X + 1 + 1) _ _ _ _ _ _ _ _ _ rfl rfl (set6_heap HRA.out _ _ _ _ _ _)) rfl ?_
  have gB := grown_set6 w9 (X + 1 + 1) (.int .i64 room) (.slice p5 m5 c5) (.slice p5 m5 c5) (.slice none 0 0) (.bool false) (.int .i64 (-1))
  rw [HLS.out]
  have hend := both_end HB.out HXW.out (by have := HXX.out; omega) HH1.out HT1.out HGR1.out (Array.getElem?_eq_some_iff.1 HK3.out).1 HG2.out HGA.out _ gB (loose6 HJ1.out) (loose6 HRA.out) HFS.out HFN.out HFT.out (.inl HOS.out) (.inr HOS.out) (.inr (New.nil _ _ _)) HREL.out
  exact ⟨S1, _, _, _, [], (-1), rfl, hend⟩

/-- Any act upon both. -/
theorem law_step {w0 w : World} {S : Nat → Prop} {B : Nat} {d : DK.D} {T : List RStep} {fuse : Int} {sv nv tv : Value} {N : Nat} (h : Both w0 w S B d T fuse sv nv tv) (hg : DK.Good N d) (hN : N ≤ 30000) (y : ActV) (hy : y.name.size ≤ 20000 ∧ y.to_.size ≤ 20000 ∧ y.s.size ≤ 20000) (hwf : y.Wf) :
    Calls Try.prog 18 #[.pointer (some ⟨B, 0, none⟩), .agg (rdCells d.room sv nv tv d.dead fuse), .agg (actCells y)] w fun e w' => ∃ S' sv' nv' tv' T' fuse', e = .returned (.tuple #[.agg (rdCells (DK.lstep d y).room sv' nv' tv' (DK.lstep d y).dead fuse'), .bool true]) ∧ Both w0 w' S' B (DK.lstep d y) T' fuse' sv' nv' tv' ∧ Turn S w w' ∧ Grew w S S' := by
  by_cases k0 : y.kind = 0
  · exact law_step_0 h hg hN y hy hwf k0
  by_cases k1 : y.kind = 1
  · exact law_step_1 h hg hN y hy hwf k1
  by_cases k2 : y.kind = 2
  · exact law_step_2 h hg hN y hy hwf k2
  by_cases k3 : y.kind = 3
  · exact law_step_3 h hg hN y hy hwf k3
  by_cases k4 : y.kind = 4
  · exact law_step_4 h hg hN y hy hwf k4
  by_cases k5 : y.kind = 5
  · exact law_step_5 h hg hN y hy hwf k5
  exact law_step_6 h hg hN y hy hwf k0 k1 k2 k3 k4 k5
end Go.Proofs.Ytfegfbhchdfibaa
