/- The document's Sync. -/
import Derived.Test.YtfegfbhchdfibaaDocStep
namespace Go.Proofs.Ytfegfbhchdfibaa
open Go.RowKit

theorem two_heap (w : World) (cs1 cs2 : Array Value) (t1 t2 : TypeId) :
    ((w.alloc (.cells cs1 t1)).alloc (.cells cs2 t2)).heap[w.heap.size]? = some (.cells cs1 t1) ∧
    ((w.alloc (.cells cs1 t1)).alloc (.cells cs2 t2)).heap[w.heap.size + 1]? = some (.cells cs2 t2) ∧
    Ext w ((w.alloc (.cells cs1 t1)).alloc (.cells cs2 t2)) :=
  ⟨heap_alloc2_old w _ _, heap_alloc2_new w _ _, ((Ext.refl w).alloc _).alloc _⟩

set_option maxRecDepth 100000 in
set_option maxHeartbeats 4000000 in
theorem ref_sync {w : World} {d : DK.D} {T : List RStep} {fuse : Int} {sv nv tv : Value} {N : Nat} (hn : FsV w nv d.now) (htv : StsV w tv T) (hsv : FsV w sv d.safe) (hr : RelD d T fuse) (hg : DK.Good N d) :
    Calls Try.prog 39 #[.agg (rdCells d.room sv nv tv d.dead fuse)] w fun e w' => ∃ sv' tv' T' fuse', e = .returned (.tuple #[.agg (rdCells d.room sv' nv tv' (DK.syncD d).1.dead fuse'), .int .i64 (DK.syncD d).2]) ∧
      FsV w' sv' (DK.syncD d).1.safe ∧ StsV w' tv' T' ∧ RelD (DK.syncD d).1 T' fuse' ∧ Ext w w' ∧ (sv' = sv ∨ sv' = nv) ∧ NewOr w tv tv' := by
  obtain ⟨p1, c1, rfl⟩ := hsv.slice
  obtain ⟨p2, c2, rfl⟩ := hn.slice
  obtain ⟨p3, c3, rfl⟩ := htv.slice
  have HN1 := Lib.hid hn
  have HT1 := Lib.hid htv
  have HS1 := Lib.hid hsv
  have HR := Lib.hid hr
  have HGD := Lib.hid hg
  unfold rdCells at *
  obtain ⟨m1, hm1⟩ : ∃ m, d.safe.length = m := ⟨_, rfl⟩
  obtain ⟨m2, hm2⟩ : ∃ m, d.now.length = m := ⟨_, rfl⟩
  obtain ⟨m3, hm3⟩ : ∃ m, T.length = m := ⟨_, rfl⟩
  obtain ⟨room, hroom⟩ : ∃ r, d.room = r := ⟨_, rfl⟩
  rw [hm1] at HS1 ⊢
  rw [hm2] at HN1 ⊢
  rw [hm3] at HT1 ⊢
  rw [hroom] at ⊢
  obtain ⟨g1, g3, hx⟩ := two_heap w #[.int .i64 room, .slice p1 m1 c1, .slice p2 m2 c2, .slice p3 m3 c3, .bool d.dead, .int .i64 fuse] #[.int .i64 0, .slice none 0 0, .slice none 0 0, .slice none 0 0, .bool false, .int .i64 0] 44 44
  have HX := Lib.hid hx
  clear hn htv hsv hr hx hg hm1 hm2 hm3 hroom
  cases hdd : d.dead with
  | true =>
    rw [hdd] at g1 g3 HX
    have HS : Hid (DK.syncD d = (d, 10)) := Lib.hid (by unfold DK.syncD; rw [if_pos hdd])
    have HD := Lib.hid hdd
    clear hdd
    go_enter Try.func39, Try.ntmps39
    go_upto_region 1 with fail
    generalize hW : (w.alloc _).alloc _ = W at *
    generalize hX : w.heap.size = X at g1 g3 ⊢
    have HXX := Lib.hid hX
    have HG3 := Lib.hid g3
    obtain ⟨a0, a1, a2, a3, a4, a5⟩ := box6 g1
    obtain ⟨r0, r1, r2, r3, r4, r5⟩ := box6 g3
    obtain ⟨q0, q1, q2, q3, q4, q5⟩ := boxF g3
    clear hW hX g1 g3
    go_wp2
    refine bodyPost_ret (ret_D rfl _ _ (X + 1) _ _ _ _ _ _ _ _ _ rfl rfl (set6_heap HG3.out _ _ _ _ _ _)) rfl ?_
    rw [HS.out]
    have hx9 := HX.out.grown (grown_set6 W (X + 1) (.int .i64 room) (.slice p1 m1 c1) (.slice p2 m2 c2) (.slice p3 m3 c3) (.bool true) (.int .i64 fuse)) (fun k e => by injection e with e; have := HXX.out; omega)
    exact ⟨_, _, T, fuse, by rw [HD.out]; rfl, HS1.out.ext hx9, HT1.out.ext hx9, HR.out, hx9, .inl rfl, .inl rfl⟩
  | false =>
    obtain ⟨hrel, hdq⟩ := HR.out.burn hdd (fun h => HGD.out.fuse h hdd)
    have HREL := Lib.hid hrel
    obtain ⟨q, hq⟩ : ∃ q, (DK.burn d).dead = q := ⟨_, rfl⟩
    have hqq : (if fuse = 0 then true else false) = q := by rw [hdd] at hdq; exact hdq.trans hq
    obtain ⟨fz, hfz⟩ : ∃ fz, bF fuse = fz := ⟨_, rfl⟩
    have HBURN : Hid (∀ (w' : World), Calls Try.prog 52 #[.agg #[.int .i64 room, .slice p1 m1 c1, .slice p2 m2 c2, .slice p3 m3 c3, .bool false, .int .i64 fuse]] w' fun e w'' => e = .returned (.agg #[.int .i64 room, .slice p1 m1 c1, .slice p2 m2 c2, .slice p3 m3 c3, .bool q, .int .i64 fz]) ∧ Ext w' w'') := Lib.hid fun w' => by
      have h := ref_burn room fuse p1 p2 p3 m1 c1 m2 c2 m3 c3 false w' HR.out.fu
      unfold rdCells at h
      rw [hqq, show (if 0 < fuse then fuse - 1 else fuse) = fz from hfz] at h
      exact h
    have HS : Hid (DK.syncD d = if q = true then (DK.burn d, 10) else ({ DK.burn d with safe := d.now, todo := [] }, 0)) := Lib.hid (by unfold DK.syncD; rw [if_neg (by rw [hdd]; simp), hq])
    rw [hfz] at HREL
    rw [hdd] at g1 g3 HX
    have HQ := Lib.hid hq
    clear hdd hrel hdq hq hqq hfz
    go_enter Try.func39, Try.ntmps39
    go_upto_region 1 with fail
    generalize hW : (w.alloc _).alloc _ = W at *
    generalize hX : w.heap.size = X at g1 g3 ⊢
    have HXX := Lib.hid hX
    have HG1 := Lib.hid g1
    have HG3 := Lib.hid g3
    obtain ⟨a0, a1, a2, a3, a4, a5⟩ := box6 g1
    clear hW hX g1 g3
    go_wp2_with fail
    refine (HBURN.out _).mono ?_
    rintro e w6 ⟨rfl, g6⟩
    have hk1 := (g6.block (Array.getElem?_eq_some_iff.1 HG1.out).1).trans HG1.out
    have hk3 := (g6.block (Array.getElem?_eq_some_iff.1 HG3.out).1).trans HG3.out
    obtain ⟨f0, f1, f2, f3, f4, f5⟩ := box6 hk1
    obtain ⟨q0, q1, q2, q3, q4, q5⟩ := boxF hk1
    obtain ⟨r0, r1, r2, r3, r4, r5⟩ := box6 hk3
    obtain ⟨s0, s1, s2, s3, s4, s5⟩ := boxF hk3
    have hx6 := HX.out.trans g6
    have gA := grown_set6 w6 X (.int .i64 room) (.slice p1 m1 c1) (.slice p2 m2 c2) (.slice p3 m3 c3) (.bool q) (.int .i64 fz)
    have hA := set6_heap hk1 (.int .i64 room) (.slice p1 m1 c1) (.slice p2 m2 c2) (.slice p3 m3 c3) (.bool q) (.int .i64 fz)
    have hR := (gA.block (X + 1) (Array.getElem?_eq_some_iff.1 hk3).1 (by intro e; injection e with e; omega)).trans hk3
    have hxA := hx6.grown gA (fun k e => by injection e with e; have := HXX.out; omega)
    unfold set6 at hA hR hxA
    have HA := Lib.hid hA
    have HRR := Lib.hid hR
    have HXA := Lib.hid hxA
    clear a0 a1 a2 a3 a4 a5 r0 r1 r2 r3 r4 r5 s0 s1 s2 s3 s4 s5 hx6 gA hk1 hk3 g6 hA hR hxA
    go_upto_region 4 with fail
    generalize (((((w6.setCell _ _).setCell _ _).setCell _ _).setCell _ _).setCell _ _).setCell _ _ = WA at *
    clear f0 f1 f2 f3 f4 f5 q0 q1 q2 q3 q4 q5
    obtain ⟨f0, f1, f2, f3, f4, f5⟩ := box6 HA.out
    obtain ⟨q0, q1, q2, q3, q4, q5⟩ := boxF HA.out
    obtain ⟨r0, r1, r2, r3, r4, r5⟩ := box6 HRR.out
    obtain ⟨s0, s1, s2, s3, s4, s5⟩ := boxF HRR.out
    cases q with
    | true =>
      go_wp2
      refine bodyPost_ret (ret_D rfl _ _ (X + 1) _ _ _ _ _ _ _ _ _ rfl rfl (set6_heap HRR.out _ _ _ _ _ _)) rfl ?_
      have hx9 := HXA.out.grown (grown_set6 _ (X + 1) (.int .i64 room) (.slice p1 m1 c1) (.slice p2 m2 c2) (.slice p3 m3 c3) (.bool true) (.int .i64 fz)) (fun k e => by injection e with e; have := HXX.out; omega)
      have hs := HS.out
      simp only [if_true] at hs
      rw [hs]
      refine ⟨_, _, T, fz, ?_, (by rw [DK.burn_safe]; exact HS1.out.ext hx9), HT1.out.ext hx9, HREL.out, hx9, .inl rfl, .inl rfl⟩
      show _ = Ending.returned (.tuple #[.agg #[.int .i64 room, .slice p1 m1 c1, .slice p2 m2 c2, .slice p3 m3 c3, .bool (DK.burn d).dead, .int .i64 fz], .int .i64 10])
      rw [HQ.out]
      rfl
    | false =>
      go_upto_region 8 with fail
      have gB := grown_setCell WA X 1 (.slice p2 m2 c2)
      have gC := grown_setCell (WA.setCell ⟨X, 1, none⟩ (.slice p2 m2 c2)) X 3 (.slice none 0 0)
      have gBC := gB.trans gC
      have hB : ((WA.setCell ⟨X, 1, none⟩ (.slice p2 m2 c2)).setCell ⟨X, 3, none⟩ (.slice none 0 0)).heap[X]? = some (.cells #[.int .i64 room, .slice p2 m2 c2, .slice p2 m2 c2, .slice none 0 0, .bool false, .int .i64 fz] 44 (0, 0)) := by
        have := HA.out
        unfold World.setCell
        rw [Array.getElem?_modify, if_pos rfl, Array.getElem?_modify, if_pos rfl, this]
        rfl
      have HB := Lib.hid hB
      have HR2 := Lib.hid ((gBC.block (X + 1) (Array.getElem?_eq_some_iff.1 HRR.out).1 (by intro e; injection e with e; omega)).trans HRR.out)
      have HXB := Lib.hid (HXA.out.grown gBC (fun k e => by injection e with e; have := HXX.out; omega))
      clear f0 f1 f2 f3 f4 f5 q0 q1 q2 q3 q4 q5 r0 r1 r2 r3 r4 r5 s0 s1 s2 s3 s4 s5 gB gC gBC hB
      generalize (WA.setCell ⟨X, 1, none⟩ (.slice p2 m2 c2)).setCell ⟨X, 3, none⟩ (.slice none 0 0) = WB at *
      obtain ⟨f0, f1, f2, f3, f4, f5⟩ := box6 HB.out
      obtain ⟨r0, r1, r2, r3, r4, r5⟩ := box6 HR2.out
      obtain ⟨s0, s1, s2, s3, s4, s5⟩ := boxF HR2.out
      go_wp2
      refine bodyPost_ret (ret_D rfl _ _ (X + 1) _ _ _ _ _ _ _ _ _ rfl rfl (set6_heap HR2.out _ _ _ _ _ _)) rfl ?_
      have hx9 := HXB.out.grown (grown_set6 _ (X + 1) (.int .i64 room) (.slice p2 m2 c2) (.slice p2 m2 c2) (.slice none 0 0) (.bool false) (.int .i64 fz)) (fun k e => by injection e with e; have := HXX.out; omega)
      have hs := HS.out
      rw [if_neg (by simp)] at hs
      rw [hs]
      refine ⟨_, _, [], fz, ?_, HN1.out.ext hx9, StsV.nil _, ⟨rfl, (fun y hy => by cases hy), HREL.out.fu, HREL.out.live⟩, hx9, .inr rfl, .inr (New.nil _ _ _)⟩
      show _ = Ending.returned (.tuple #[.agg #[.int .i64 room, .slice p2 m2 c2, .slice p2 m2 c2, .slice none 0 0, .bool (DK.burn d).dead, .int .i64 fz], .int .i64 0])
      rw [HQ.out]
      rfl
end Go.Proofs.Ytfegfbhchdfibaa
