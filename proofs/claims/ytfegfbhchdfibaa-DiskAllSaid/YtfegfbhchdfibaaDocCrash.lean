/- The document's Crash. -/
import Derived.Test.YtfegfbhchdfibaaDocSync
namespace Go.Proofs.Ytfegfbhchdfibaa
open Go.RowKit

theorem NewOr.ext {w w1 : World} {v0 v1 v2 : Value} (h : NewOr w v0 v1) (he : Ext w w1) (h2 : NewOr w1 v1 v2) : NewOr w v0 v2 := by
  rcases h2 with rfl | h2
  · exact h
  · exact .inr (h2.from_ he)
theorem step_ok {d : DK.D} {T : List RStep} {fuse : Int} {N : Nat} (hr : RelD d T fuse) (hg : DK.Good N d) (hN : N ≤ 50000) (k : Nat) (hk : k < T.length) : (T[k]).ok (DK.runs d.safe (d.todo.take k)) ∧ DK.runs d.safe (d.todo.take (k + 1)) = DK.doS (DK.runs d.safe (d.todo.take k)) (T[k]).st ∧ d.todo[k]? = some (T[k]).st := by
  have hk2 : k < d.todo.length := by rw [hr.len]; exact hk
  have he : d.todo[k] = (T[k]).st := by simp [hr.todo]
  have h1 := hg.steps k hk2
  obtain ⟨h2, h3, h4⟩ := hr.wf T[k] (List.getElem_mem hk)
  rw [he] at h1
  refine ⟨rs_ok (fun hlt => ⟨h3 hlt, ?_⟩) h2 h4 ((hg.small k (by omega)).mono (by omega)), by rw [take_next _ _ hk2, DK.runs_snoc, he], by rw [List.getElem?_eq_getElem hk2, he]⟩
  have hat := h3 hlt
  unfold RStep.st at h1
  by_cases k0 : (T[k]).kind = 0
  · rw [if_pos k0] at h1
    have := h1.1
    omega
  · have k1 : (T[k]).kind = 1 := by omega
    rw [if_neg k0, if_pos k1] at h1
    have := h1.1
    omega

theorem NewOr.fin {w W wr : World} {R : Nat} {sv vf : Value} {l0 l : DK.Files} (h0 : FsV w sv l0) (h : NewOr W sv vf) (hf : FsV wr vf l) (hR : w.heap.size ≤ R) (hRW : R < W.heap.size) : Off (fun k => k = R) vf l.length := by
  rcases h with rfl | h
  · obtain ⟨p, c, h1, h2, h3⟩ := h0
    obtain ⟨p', c', e1, e2, e3⟩ := hf
    have e := h1.symm.trans e1
    injection e with k1 k2 k3
    rcases h3 with h3 | ⟨b, o, hp, hs⟩
    · exact .inl (by omega)
    · by_cases hz : l0.length = 0
      · exact .inl (by omega)
      · refine .inr fun b' hb' e => ?_
        obtain rfl : b = b' := by rw [h1, hp] at hb'; simpa [Value.ownBlock] using hb'
        have := lt_of_cell (hs 0 (by omega)).1
        simp only at this
        omega
  · exact .inr fun b hb e => by have := h b hb; omega
theorem left_none {d : DK.D} {keep tk : Int} {k : Nat} (h : min keep.toNat d.todo.length = k) (h2 : d.todo[k]? = none) : DK.left d keep tk = DK.runs d.safe (d.todo.take k) := by
  subst h
  unfold DK.left
  simp only [h2]
theorem left_some {d : DK.D} {keep tk : Int} {k : Nat} {s : DK.Step} (h : min keep.toNat d.todo.length = k) (h2 : d.todo[k]? = some s) :
    (tk ≤ 0 → DK.left d keep tk = DK.runs d.safe (d.todo.take k)) ∧ (DK.torn tk.toNat s = none → DK.left d keep tk = DK.runs d.safe (d.todo.take k)) ∧ (0 < tk → ∀ s', DK.torn tk.toNat s = some s' → DK.left d keep tk = DK.doS (DK.runs d.safe (d.todo.take k)) s') := by
  subst h
  unfold DK.left
  simp only [h2]
  refine ⟨fun h => by rw [if_neg (by omega)], fun h => ?_, fun h s' hs => by rw [if_pos h, hs]⟩
  rw [h]
  split <;> rfl
theorem torn_kind {y : RStep} (t : Nat) (h : y.kind ≠ 0) : DK.torn t y.st = none := by
  unfold RStep.st
  rw [if_neg h]
  split
  · rfl
  · split <;> rfl

set_option maxRecDepth 100000 in
set_option maxHeartbeats 4000000 in
theorem ref_crash {w : World} {d : DK.D} {T : List RStep} {fuse : Int} {sv nv tv : Value} {N : Nat} (hn : FsV w nv d.now) (htv : StsV w tv T) (hsv : FsV w sv d.safe) (hr : RelD d T fuse) (hg : DK.Good N d) (hN : N ≤ 50000) (keep tk : Int) :
    Calls Try.prog 40 #[.agg (rdCells d.room sv nv tv d.dead fuse), .int .i64 keep, .int .i64 tk] w fun e w' => ∃ v', e = .returned (.agg (rdCells d.room v' v' (.slice none 0 0) false (-1))) ∧
      FsV w' v' (DK.left d keep tk) ∧ Ext w w' ∧ NewOr w sv v' := by
  have HN2 := Lib.hid hn
  have HT1 := Lib.hid htv
  have HS1 := Lib.hid hsv
  have HR := Lib.hid hr
  have HGD := Lib.hid hg
  have HOK := Lib.hid (step_ok hr hg hN)
  obtain ⟨p1, c1, rfl⟩ := hsv.slice
  obtain ⟨p2, c2, rfl⟩ := hn.slice
  obtain ⟨p3, c3, htve, _, ht0⟩ := htv
  subst htve
  unfold rdCells at *
  obtain ⟨m1, hm1⟩ : ∃ m, d.safe.length = m := ⟨_, rfl⟩
  obtain ⟨m2, hm2⟩ : ∃ m, d.now.length = m := ⟨_, rfl⟩
  obtain ⟨n, hm3⟩ : ∃ m, T.length = m := ⟨_, rfl⟩
  obtain ⟨room, hroom⟩ : ∃ r, d.room = r := ⟨_, rfl⟩
  obtain ⟨dead, hdead⟩ : ∃ r, d.dead = r := ⟨_, rfl⟩
  have hnN : n ≤ 50000 := by rw [← hm3, ← hr.len]; have := hg.len; omega
  rw [hm1] at HS1 ⊢
  rw [hm2] at HN2 ⊢
  rw [hm3] at HT1 ht0 ⊢
  rw [hroom, hdead] at ⊢
  have HTA : Hid (n = 0 ∨ ∃ b o, p3 = some ⟨b, o, none⟩ ∧ StsAt w b o T) := ht0
  have HM3 := Lib.hid hm3
  obtain ⟨kk, hkk⟩ : ∃ kk, min keep.toNat n = kk := ⟨_, rfl⟩
  have hkn : kk ≤ n := by omega
  have hmx : ∀ w, (Builtin.max_ #[3, 3] 3 #[.int .i64 keep, .int .i64 0]).run Try.prog w = .ok (.int .i64 (max keep 0)) w := fun w => run_max2 _ _ _ _ _
  have hmn : ∀ w, (Builtin.min_ #[3, 3] 3 #[.int .i64 (max keep 0), .int .i64 n]).run Try.prog w = .ok (.int .i64 kk) w := fun w => by rw [run_min2, show min (max keep 0) (n : Int) = kk by omega]
  have hlf : min keep.toNat d.todo.length = kk := by rw [hr.len, hm3, hkk]
  have HLF := Lib.hid hlf
  obtain ⟨g1, g3, hx⟩ := two_heap w #[.int .i64 room, .slice p1 m1 c1, .slice p2 m2 c2, .slice p3 n c3, .bool dead, .int .i64 fuse] #[.int .i64 0, .slice none 0 0, .slice none 0 0, .slice none 0 0, .bool false, .int .i64 0] 44 44
  have HX := Lib.hid hx
  clear hn hsv hr hx hg hm1 hm2 hm3 hroom hdead ht0 hkk hlf
  go_enter Try.func40, Try.ntmps40
  go_upto_region 1 with fail
  generalize hW : (w.alloc _).alloc _ = W at *
  generalize hX : w.heap.size = X at g1 g3 ⊢
  have HXX := Lib.hid hX
  have HG1 := Lib.hid g1
  have HG3 := Lib.hid g3
  obtain ⟨a0, a1, a2, a3, a4, a5⟩ := box6 g1
  clear hW hX g1 g3
  go_wp2
  go_loopw [7, 9] (fun f iv W' => ∃ (k : Nat) (q : Option Addr) (m c : Nat), k ≤ kk ∧ iv = .int .i64 k ∧ f = .slice q m c ∧ Hid (FsV W' (.slice q m c) (DK.runs d.safe (d.todo.take k))) ∧ Hid (NewOr W (.slice p1 m1 c1) (.slice q m c)) ∧ Hid (Ext W W')) (fun _ iv _ => kk - (intOf iv).toNat)
  case atStart => exact ⟨0, p1, m1, c1, by omega, rfl, rfl, Lib.hid (HS1.out.ext HX.out), Lib.hid (.inl rfl), Lib.hid (Ext.refl _)⟩
  case round =>
    obtain ⟨k, q, m, c, hk, rfl, rfl, HF, HNW, HE⟩ := hrel
    obtain ⟨f0, f1, f2, f3, f4, f5⟩ := box6 ((HE.out.block (Array.getElem?_eq_some_iff.1 HG1.out).1).trans HG1.out)
    clear a0 a1 a2 a3 a4 a5
    have hxr := HX.out.trans HE.out
    by_cases hlt : k < kk
    · have hkT : k < T.length := by rw [HM3.out]; omega
      obtain ⟨b, o, rfl, hs⟩ : ∃ b o, p3 = some ⟨b, o, none⟩ ∧ StsAt w b o T := by
        rcases HTA.out with h | h
        · omega
        · exact h
      obtain ⟨e0, e1, e2, e3, e4⟩ := (hs.ext hxr).cs hkT
      obtain ⟨o1, o2, _⟩ := HOK.out k hkT
      generalize T[k] = y at *
      have HDO := Lib.hid (ref_do HF.out y o1)
      rw [← o2] at HDO
      obtain ⟨kd, nm, tt, at', s⟩ := y
      unfold rsCells at HDO
      simp only at e0 e1 e2 e3 e4 HDO
      have i1 : (0 : Int) ≤ (k : Int) := by omega
      have i2 : (k : Int) < (n : Int) := by omega
      have HXR := Lib.hid hxr
      clear hs hxr o1 o2 hkT
      go_wp2_with fail
      refine HDO.out.mono ?_
      rintro e w5 ⟨v5, rfl, hv5, g5, hnw⟩
      have HV5 := Lib.hid hv5
      obtain ⟨p5, c5, rfl, _, _⟩ := hv5
      have HN5 := Lib.hid (NewOr.ext HNW.out HE.out (.inr hnw))
      have HE5 := Lib.hid (HE.out.trans g5)
      generalize (DK.runs d.safe (d.todo.take (k + 1))).length = m5 at *
      clear g5 hnw e0 e1 e2 e3 e4 f0 f1 f2 f3 f4 f5
      go_wp2
      go_roundw
      case rel => exact ⟨k + 1, p5, m5, c5, by omega, by go_num, rfl, HV5, HN5, HE5⟩
      case measure => simp [intOf]; omega
    · obtain rfl : k = kk := by omega
      have HXR := Lib.hid hxr
      have hr3 := (HE.out.block (Array.getElem?_eq_some_iff.1 HG3.out).1).trans HG3.out
      have HR3 := Lib.hid hr3
      obtain ⟨r0, r1, r2, r3, r4, r5⟩ := box6 hr3
      obtain ⟨s0, s1, s2, s3, s4, s5⟩ := boxF hr3
      have hx9 := hxr.grown (grown_set6 wr (X + 1) (.int .i64 room) (.slice q m c) (.slice q m c) (.slice none 0 0) (.bool false) (.int .i64 (-1))) (fun k e => by injection e with e; have := HXX.out; omega)
      have HX9 := Lib.hid hx9
      clear hr3 hx9 hxr
      by_cases hkn2 : k < n
      · have hkT : k < T.length := by rw [HM3.out]; omega
        have t0 : decide ((k : Int) < (n : Int)) = true := decide_eq_true (by omega)
        obtain ⟨_, _, o3⟩ := HOK.out k hkT
        obtain ⟨l1, l2, l3⟩ := left_some (tk := tk) HLF.out o3
        by_cases htk : 0 < tk
        · have t1 : decide ((0 : Int) < tk) = true := decide_eq_true htk
          obtain ⟨b, o, rfl, hs⟩ : ∃ b o, p3 = some ⟨b, o, none⟩ ∧ StsAt w b o T := by
            rcases HTA.out with h | h
            · omega
            · exact h
          obtain ⟨e0, e1, e2, e3, e4⟩ := (hs.ext HXR.out).cs hkT
          by_cases k0 : (T[k]).kind = 0
          · obtain ⟨o1, _, _⟩ := HOK.out k hkT
            obtain ⟨w1, w2, w3⟩ := HR.out.wf T[k] (List.getElem_mem hkT)
            generalize T[k] = y at *
            obtain ⟨kd, nm, tt, at', s⟩ := y
            simp only at k0 e0 e1 e2 e3 e4 w1 w2 w3
            subst k0
            have hl3 := l3 htk _ (rfl : DK.torn tk.toNat (.write nm at'.toNat s) = some (.write nm at'.toNat (s.extract 0 (min tk.toNat s.size))))
            obtain ⟨ml, hml⟩ : ∃ ml, min tk.toNat s.size = ml := ⟨_, rfl⟩
            rw [hml] at hl3
            have hmn2 : ∀ w, (Builtin.min_ #[3, 3] 3 #[.int .i64 tk, .int .i64 s.size]).run Try.prog w = .ok (.int .i64 ml) w := fun w => by rw [run_min2, show min tk (s.size : Int) = ml by omega]
            have hmls : ml ≤ s.size := by omega
            have hse : (s.extract 0 ml).size = ml := by rw [ByteArray.size_extract]; omega
            have HL := Lib.hid hl3
            have hok : RStep.ok ⟨0, nm, tt, at', s.extract 0 ml⟩ (DK.runs d.safe (d.todo.take k)) := ⟨o1.1, by simp, by simp, by simp only; omega, o1.2.2.2.2.1, o1.2.2.2.2.2⟩
            have HDO := Lib.hid (fun (W' : World) (he : Ext wr W') => ref_do (HF.out.ext he) ⟨0, nm, tt, at', s.extract 0 ml⟩ hok)
            unfold rsCells at HDO
            simp only at HDO
            rw [show RStep.st ⟨0, nm, tt, at', s.extract 0 ml⟩ = .write nm at'.toNat (s.extract 0 ml) from rfl] at HDO
            have i1 : (0 : Int) ≤ (k : Int) := by omega
            have i2 : (k : Int) < (n : Int) := by omega
            clear o1 w1 w2 w3 l1 l2 l3 hl3 hok hml hs o3
            go_upto_region 10 with fail
            clear r0 r1 r2 r3 r4 r5 s0 s1 s2 s3 s4 s5 f0 f1 f2 f3 f4 f5 e0 e1 e2 e3 e4
            go_wp2_with fail
            refine (HDO.out _ ((Ext.refl _).alloc _)).mono ?_
            rintro e w6 ⟨v6, rfl, hv6, g6, hnw⟩
            have hg6 := ((Ext.refl wr).alloc (.cells #[.int .i64 0, .string nm, .string tt, .int .i64 at', .string (s.extract 0 ml)] 75)).trans g6
            have hE6 := HE.out.trans hg6
            have hr1 := (hE6.block (Array.getElem?_eq_some_iff.1 HG1.out).1).trans HG1.out
            have hr3 := (hE6.block (Array.getElem?_eq_some_iff.1 HG3.out).1).trans HG3.out
            have HR3 := Lib.hid hr3
            obtain ⟨f0, f1, f2, f3, f4, f5⟩ := box6 hr1
            obtain ⟨r0, r1, r2, r3, r4, r5⟩ := box6 hr3
            obtain ⟨s0, s1, s2, s3, s4, s5⟩ := boxF hr3
            have HF6 := Lib.hid hv6
            obtain ⟨q6, c6, rfl, _, _⟩ := hv6
            obtain ⟨m6, hm6⟩ : ∃ m6, (DK.doS (DK.runs d.safe (d.todo.take k)) (.write nm at'.toNat (s.extract 0 ml))).length = m6 := ⟨_, rfl⟩
            rw [hm6] at HF6 hnw ⊢
            have HNW6 := Lib.hid (NewOr.ext HNW.out HE.out (.inr (hnw.from_ ((Ext.refl wr).alloc _))))
            have HX6 := Lib.hid ((HX.out.trans hE6).grown (grown_set6 w6 (X + 1) (.int .i64 room) (.slice q6 m6 c6) (.slice q6 m6 c6) (.slice none 0 0) (.bool false) (.int .i64 (-1))) (fun k e => by injection e with e; have := HXX.out; omega))
            clear hr1 hr3 hg6 hE6 g6 hnw hm6
            go_wp2
            refine bodyPost_ret (results_cell_row rfl _ _ (X + 1) _ _ _ _ rfl (set6_heap HR3.out _ _ _ _ _ _) Try.underlying44 rfl (by kernel_rfl)) rfl ?_
            refine ⟨_, rfl, ?_, HX6.out, NewOr.ext (.inl rfl) HX.out HNW6.out⟩
            rw [HL.out]
            exact HF6.out.turn ((Turn.refl (fun k => k = X + 1) _).grown (grown_set6 _ (X + 1) (.int .i64 room) (.slice q6 m6 c6) (.slice q6 m6 c6) (.slice none 0 0) (.bool false) (.int .i64 (-1))) (.inl rfl)) (NewOr.fin HS1.out HNW6.out HF6.out (by have := HXX.out; omega) (Array.getElem?_eq_some_iff.1 HG3.out).1)
          · have HL := Lib.hid (l2 (torn_kind _ k0))
            have t2 : ((T[k]).kind == 0) = false := beq_eq_false_iff_ne.2 k0
            have t3 : decide ((T[k]).kind = 0) = false := decide_eq_false k0
            generalize T[k] = y at *
            obtain ⟨kd, nm, tt, at', s⟩ := y
            simp only at k0 e0 e1 e2 e3 e4 t2 t3
            have i1 : (0 : Int) ≤ (k : Int) := by omega
            have i2 : (k : Int) < (n : Int) := by omega
            clear l1 l2 l3 hs o3 k0
            go_wp2
            refine bodyPost_ret (results_cell_row rfl _ _ (X + 1) _ _ _ _ rfl (set6_heap HR3.out _ _ _ _ _ _) Try.underlying44 rfl (by kernel_rfl)) rfl ?_
            refine ⟨_, rfl, ?_, HX9.out, NewOr.ext (.inl rfl) HX.out HNW.out⟩
            rw [HL.out]
            exact HF.out.turn ((Turn.refl (fun k => k = X + 1) _).grown (grown_set6 _ (X + 1) (.int .i64 room) (.slice q m c) (.slice q m c) (.slice none 0 0) (.bool false) (.int .i64 (-1))) (.inl rfl)) (NewOr.fin HS1.out HNW.out HF.out (by have := HXX.out; omega) (Array.getElem?_eq_some_iff.1 HG3.out).1)
        · have t1 : decide ((0 : Int) < tk) = false := decide_eq_false htk
          have HL := Lib.hid (l1 (by omega))
          clear l1 l2 l3 o3
          go_wp2
          refine bodyPost_ret (results_cell_row rfl _ _ (X + 1) _ _ _ _ rfl (set6_heap HR3.out _ _ _ _ _ _) Try.underlying44 rfl (by kernel_rfl)) rfl ?_
          refine ⟨_, rfl, ?_, HX9.out, NewOr.ext (.inl rfl) HX.out HNW.out⟩
          rw [HL.out]
          exact HF.out.turn ((Turn.refl (fun k => k = X + 1) _).grown (grown_set6 _ (X + 1) (.int .i64 room) (.slice q m c) (.slice q m c) (.slice none 0 0) (.bool false) (.int .i64 (-1))) (.inl rfl)) (NewOr.fin HS1.out HNW.out HF.out (by have := HXX.out; omega) (Array.getElem?_eq_some_iff.1 HG3.out).1)
      · obtain rfl : k = n := by omega
        have t0 : decide ((k : Int) < (k : Int)) = false := decide_eq_false (by omega)
        have HL := Lib.hid (left_none (tk := tk) HLF.out (by rw [List.getElem?_eq_none]; rw [HR.out.len, HM3.out]; exact Nat.le_refl _))
        go_wp2
        refine bodyPost_ret (results_cell_row rfl _ _ (X + 1) _ _ _ _ rfl (set6_heap HR3.out _ _ _ _ _ _) Try.underlying44 rfl (by kernel_rfl)) rfl ?_
        refine ⟨_, rfl, ?_, HX9.out, NewOr.ext (.inl rfl) HX.out HNW.out⟩
        rw [HL.out]
        exact HF.out.turn ((Turn.refl (fun k => k = X + 1) _).grown (grown_set6 _ (X + 1) (.int .i64 room) (.slice q m c) (.slice q m c) (.slice none 0 0) (.bool false) (.int .i64 (-1))) (.inl rfl)) (NewOr.fin HS1.out HNW.out HF.out (by have := HXX.out; omega) (Array.getElem?_eq_some_iff.1 HG3.out).1)
end Go.Proofs.Ytfegfbhchdfibaa
